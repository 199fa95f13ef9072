/- Plain law: a text split and cut at one byte. -/
import Derived.Test.YtegeijlookpgaaaDoorPF
import Derived.Lib.SplitLaws
import Derived.Lib.IndexBytes
import Derived.Lib.IndexLaws
import Derived.Lib.TrimByte
set_option linter.unusedVariables false
set_option linter.unusedSimpArgs false
namespace Go.Proofs.YtegeijlookpgaaaDoor

/-- the pieces of a text between the bytes c; cur: what stands ahead in the first piece -/
def spl (c : UInt8) : BL → BL → List BL
  | cur, [] => [cur]
  | cur, b :: l => if b = c then cur :: spl c [] l else spl c (cur ++ [b]) l
theorem spl_miss (c : UInt8) : ∀ (l cur : BL), c ∉ l → spl c cur l = [cur ++ l]
  | [], cur, _ => by simp [spl]
  | b :: l, cur, h => by
    have hb : b ≠ c := fun e => h (by simp [e])
    rw [spl, if_neg hb, spl_miss c l _ (fun hm => h (by simp [hm]))]
    simp
theorem spl_hit (c : UInt8) : ∀ (a cur b : BL), c ∉ a → spl c cur (a ++ c :: b) = (cur ++ a) :: spl c [] b
  | [], cur, b, _ => by simp [spl]
  | x :: a, cur, b, h => by
    have hx : x ≠ c := fun e => h (by simp [e])
    rw [List.cons_append, spl, if_neg hx, spl_hit c a _ b (fun hm => h (by simp [hm]))]
    simp
/-- the ways of indexByte -/
theorem ib_miss {l : BL} {c : UInt8} (h : Lib.indexByte l c = -1) : c ∉ l := by
  intro hm
  obtain ⟨k, hk, e⟩ := List.mem_iff_getElem.1 hm
  exact Lib.indexByte_none h k (by rw [List.getElem?_eq_getElem hk, e])
theorem ib_hit {l : BL} {c : UInt8} {o : Nat} (h : Lib.indexByte l c = o) : l = l.take o ++ c :: l.drop (o + 1) ∧ c ∉ l.take o ∧ o < l.length := by
  obtain ⟨h1, h2⟩ := Lib.indexByte_some h
  obtain ⟨ho, e⟩ := List.getElem?_eq_some_iff.1 h1
  refine ⟨?_, ?_, ho⟩
  · conv => lhs; rw [← List.take_append_drop o l, List.drop_eq_getElem_cons ho, e]
  · intro hm
    obtain ⟨k, hk, e2⟩ := List.mem_iff_getElem.1 hm
    rw [List.length_take] at hk
    refine h2 k (by omega) ?_
    rw [List.getElem_take] at e2
    rw [List.getElem?_eq_getElem (by omega), e2]
theorem ib_ways (l : BL) (c : UInt8) : Lib.indexByte l c = -1 ∨ ∃ o : Nat, Lib.indexByte l c = o := by
  have := Lib.indexByte_ge l c
  by_cases h : Lib.indexByte l c < 0
  · exact .inl (by omega)
  · exact .inr ⟨(Lib.indexByte l c).toNat, by omega⟩
theorem splitK_spl (c : UInt8) : ∀ (k : Nat) (l : BL), l.count c ≤ k → Lib.splitK [c] 0 k l = spl c [] l
  | 0, l, h => by
    have : c ∉ l := by rw [← List.count_eq_zero]; omega
    rw [spl_miss c l [] this]; rfl
  | k + 1, l, h => by
    unfold Lib.splitK
    rw [Lib.index_one]
    rcases ib_ways l c with hi | ⟨o, hi⟩
    · rw [hi, spl_miss c l [] (ib_miss hi)]; rfl
    · obtain ⟨h1, h2, h3⟩ := ib_hit hi
      have hc : (l.drop (o + 1)).count c ≤ k := by
        have := congrArg (List.count c) h1
        rw [List.count_append, List.count_cons_self] at this
        omega
      have hm : ¬ ((Lib.indexByte l c == -1) = true) := fun e => by have := beq_iff_eq.1 e; omega
      rw [if_neg hm, hi]
      have e : ((o : Int).toNat + [c].length) = o + 1 := by simp
      rw [e, splitK_spl c k _ hc]
      conv => rhs; rw [h1, spl_hit c _ [] _ h2]
      simp
theorem splitB_spl (c : UInt8) (s : ByteArray) : (Lib.splitB ⟨#[c]⟩ 0 (Lib.countB s ⟨#[c]⟩) s).map (fun t => t.data.toList) = spl c [] s.data.toList := by
  rw [Lib.splitB_data]
  refine splitK_spl c _ _ ?_
  rw [show Lib.countB s ⟨#[c]⟩ = Lib.count s.data.toList [c] from rfl, Lib.count_one]
  exact Nat.le_refl _
theorem splitB_len (c : UInt8) (s : ByteArray) : (Lib.splitB ⟨#[c]⟩ 0 (Lib.countB s ⟨#[c]⟩) s).length = Lib.countB s ⟨#[c]⟩ + 1 := Lib.splitB_all ⟨#[c]⟩ (Nat.le_refl 1) 0 _ s rfl

/-- what stands ahead of the first c, what behind it, whether there is one -/
def cutA (c : UInt8) (l : BL) : BL := l.takeWhile (· != c)
def cutB (c : UInt8) (l : BL) : BL := (l.dropWhile (· != c)).drop 1
theorem cut_at (c : UInt8) (a b : BL) (h : c ∉ a) : cutA c (a ++ c :: b) = a ∧ cutB c (a ++ c :: b) = b := by
  have hp : ∀ x ∈ a, (x != c) = true := fun x hx => by rw [bne_iff_ne]; rintro rfl; exact h hx
  unfold cutA cutB
  rw [List.takeWhile_append_of_pos hp, List.dropWhile_append_of_pos hp]
  simp
theorem cut_none (c : UInt8) (l : BL) (h : c ∉ l) : cutA c l = l ∧ cutB c l = [] := by
  have hp : ∀ x ∈ l, (x != c) = true := fun x hx => by rw [bne_iff_ne]; rintro rfl; exact h hx
  unfold cutA cutB
  have e1 := List.takeWhile_append_of_pos (l₂ := []) hp
  have e2 := List.dropWhile_append_of_pos (l₂ := []) hp
  simp only [List.append_nil, List.takeWhile_nil, List.dropWhile_nil] at e1 e2
  rw [e1, e2]; exact ⟨rfl, rfl⟩
theorem lib_cut (c : UInt8) (l : BL) : Lib.cut l [c] = (cutA c l, cutB c l, l.contains c) := by
  unfold Lib.cut
  rw [Lib.index_one]
  rcases ib_ways l c with hi | ⟨o, hi⟩
  · have hm := ib_miss hi
    obtain ⟨e1, e2⟩ := cut_none c l hm
    have e3 : l.contains c = false := by simpa using hm
    rw [hi, if_neg (by decide), e1, e2, e3]
  · obtain ⟨h1, h2, h3⟩ := ib_hit hi
    have e3 : l.contains c = true := by rw [h1]; simp
    rw [hi, if_pos (by omega), e3]
    have e : ((o : Int).toNat + [c].length) = o + 1 := by simp
    rw [e]
    obtain ⟨e1, e2⟩ := cut_at c (l.take o) (l.drop (o + 1)) h2
    rw [← h1] at e1 e2
    rw [e1, e2]; simp

/-! ### a token's text -/
def moreL : BL := [45, 46, 95, 126, 43, 47]
def okB (c : UInt8) : Bool := alnum c || moreL.contains c
/-- may l be a token's text? -/
def textS (l : BL) : Bool := !(l.takeWhile okB).isEmpty && (l.dropWhile okB).all (· == 61)
theorem ok_eq (c : UInt8) (h : okB c = true) : c ≠ 61 := by rintro rfl; revert h; decide
theorem trim_split (l : BL) (c : UInt8) : l = Lib.trimRightB l c ++ (l.reverse.takeWhile (· == c)).reverse := by
  unfold Lib.trimRightB
  rw [← List.reverse_append, List.takeWhile_append_dropWhile, List.reverse_reverse]
theorem trim_le (l : BL) (c : UInt8) : (Lib.trimRightB l c).length ≤ l.length := by
  have := congrArg List.length (trim_split l c)
  rw [List.length_append] at this; omega
theorem trim_take (l : BL) (c : UInt8) : Lib.trimRightB l c = l.take (Lib.trimRightB l c).length := by
  conv => rhs; rw [trim_split l c]
  rw [show (Lib.trimRightB (Lib.trimRightB l c ++ (l.reverse.takeWhile (· == c)).reverse) c).length = (Lib.trimRightB l c).length from by rw [← trim_split l c]]
  rw [List.take_left]
theorem trim_last (l : BL) (c : UInt8) (h : Lib.trimRightB l c ≠ []) : (Lib.trimRightB l c).getLast h ≠ c := by
  unfold Lib.trimRightB at h ⊢
  intro e
  rw [List.getLast_reverse] at e
  have hd : (l.reverse.dropWhile (· == c)) ≠ [] := by simpa using h
  have h1 := List.head_dropWhile_not (· == c) hd
  rw [e] at h1
  simp at h1
theorem text_prog (l : BL) : ((Lib.trimRightB l 61).all okB && !(Lib.trimRightB l 61).isEmpty) = textS l := by
  have hs := trim_split l 61
  have htw : ∀ x ∈ (l.reverse.takeWhile (· == 61)).reverse, (x == (61 : UInt8)) = true := fun x hx => by
    rw [List.mem_reverse] at hx
    exact List.all_eq_true.1 (List.all_takeWhile (l := l.reverse) (p := (· == (61 : UInt8)))) x hx
  have hl := trim_last l 61
  generalize (l.reverse.takeWhile (· == 61)).reverse = e at *
  generalize Lib.trimRightB l 61 = a at *
  subst hs
  have he1 : e.takeWhile okB = [] := by
    cases e with
    | nil => rfl
    | cons x r =>
      have hx := htw x (by simp)
      have : okB x = false := by
        cases ho : okB x
        · rfl
        · exact absurd (by simpa using hx) (ok_eq x ho)
      rw [List.takeWhile_cons, this]; rfl
  have he2 : e.dropWhile okB = e := by
    have := List.takeWhile_append_dropWhile (p := okB) (l := e)
    rw [he1] at this
    simpa using this
  unfold textS
  cases ha : a.all okB
  · rw [Bool.false_and]
    symm
    rw [Bool.and_eq_false_iff]
    refine .inr ?_
    have hne : a ≠ [] := by rintro rfl; simp at ha
    obtain ⟨x, hx, hxo⟩ := List.all_eq_false.1 ha
    -- the last of a stands in what is left
    have hd : a.dropWhile okB ≠ [] := by
      intro h0
      have : ∀ y ∈ a, okB y = true := by
        have h1 := List.takeWhile_append_dropWhile (p := okB) (l := a)
        rw [h0, List.append_nil] at h1
        intro y hy
        rw [← h1] at hy
        exact List.all_eq_true.1 (List.all_takeWhile (l := a) (p := okB)) y hy
      exact hxo (this x hx)
    have hap : (a ++ e).dropWhile okB = a.dropWhile okB ++ e := by
      rw [List.dropWhile_append]
      have : (a.dropWhile okB).isEmpty = false := by simpa using hd
      rw [this]; rfl
    rw [hap, List.all_append, Bool.and_eq_false_iff]
    refine .inl ?_
    rw [List.all_eq_false]
    refine ⟨a.getLast hne, ?_, by simpa using hl hne⟩
    have h2 : (a.dropWhile okB).getLast hd = a.getLast hne := by
      have h1 := List.takeWhile_append_dropWhile (p := okB) (l := a)
      have h3 : a.getLast? = (a.dropWhile okB).getLast? := by
        conv => lhs; rw [← h1]
        rw [List.getLast?_append, List.getLast?_eq_some_getLast hd]; rfl
      rw [List.getLast?_eq_some_getLast hne, List.getLast?_eq_some_getLast hd] at h3
      exact (Option.some.inj h3).symm
    rw [← h2]
    exact List.getLast_mem hd
  · have hp : ∀ y ∈ a, okB y = true := List.all_eq_true.1 ha
    rw [List.takeWhile_append_of_pos hp, List.dropWhile_append_of_pos hp, he1, he2, List.append_nil]
    have : e.all (· == 61) = true := List.all_eq_true.2 htw
    rw [this]
    simp

/-! ### a form or a query, read -/
/-- the pieces that are not empty -/
def piecesS (l : BL) : List BL := (spl 38 [] l).filter (fun p => !p.isEmpty)
def pieceS (p : BL) : Option (BL × BL) := match unesc true (cutA 61 p) with
  | none => none
  | some a => match unesc true (cutB 61 p) with | none => none | some b => some (a, b)
def piecesM : List BL → Option (List (BL × BL))
  | [] => some []
  | p :: r => match pieceS p with | none => none | some x => (piecesM r).map (x :: ·)
def pairsS (l : BL) : Option (List (BL × BL)) := if (piecesS l).length > 32 then none else piecesM (piecesS l)
theorem piecesM_app (acc : List (BL × BL)) (p : BL) (r : List BL) (x : BL × BL) (h : pieceS p = some x) : (piecesM (p :: r)).map (acc ++ ·) = (piecesM r).map ((acc ++ [x]) ++ ·) := by
  simp only [piecesM, h]
  cases piecesM r <;> simp
theorem spl_len (c : UInt8) : ∀ (l cur : BL), ((spl c cur l).map List.length).sum + (spl c cur l).length ≤ cur.length + l.length + 1
  | [], cur => by simp [spl]
  | b :: l, cur => by
    rw [spl]
    split
    · have := spl_len c l []
      simp at this ⊢; omega
    · have := spl_len c l (cur ++ [b])
      simp at this ⊢; omega
theorem mem_len {ls : List BL} {x : BL} (h : x ∈ ls) : x.length ≤ (ls.map List.length).sum := by
  induction ls with
  | nil => simp at h
  | cons a r ih =>
    rcases List.mem_cons.1 h with rfl | h
    · simp
    · have := ih h
      simp; omega
theorem cutA_le (c : UInt8) (l : BL) : (cutA c l).length ≤ l.length := (List.takeWhile_sublist _).length_le
theorem cutB_le (c : UInt8) (l : BL) : (cutB c l).length ≤ l.length := by
  unfold cutB
  have := (List.dropWhile_sublist (fun x => x != c) (l := l)).length_le
  rw [List.length_drop]; omega

theorem pieceS_len {p : BL} {x : BL × BL} (h : pieceS p = some x) : x.1.length ≤ p.length ∧ x.2.length ≤ p.length := by
  unfold pieceS at h
  split at h
  · cases h
  · rename_i a ha
    split at h
    · cases h
    · rename_i b hb
      cases h
      exact ⟨Nat.le_trans (unesc_len _ _ _ ha) (cutA_le _ _), Nat.le_trans (unesc_len _ _ _ hb) (cutB_le _ _)⟩
theorem piecesM_len : ∀ (ps : List BL) (xs : List (BL × BL)) (n : Nat), piecesM ps = some xs → (∀ p ∈ ps, p.length ≤ n) → xs.length = ps.length ∧ ∀ x ∈ xs, x.1.length ≤ n ∧ x.2.length ≤ n
  | [], xs, n, h, _ => by simp [piecesM] at h; subst h; simp
  | p :: r, xs, n, h, hn => by
    simp only [piecesM] at h
    split at h
    · cases h
    · rename_i x hx
      simp only [Option.map_eq_some_iff] at h
      obtain ⟨t, ht, rfl⟩ := h
      obtain ⟨h1, h2⟩ := piecesM_len r t n ht (fun q hq => hn q (by simp [hq]))
      have h3 := pieceS_len hx
      have h4 := hn p (by simp)
      refine ⟨by simp [h1], fun y hy => ?_⟩
      rcases List.mem_cons.1 hy with rfl | hy
      · exact ⟨Nat.le_trans h3.1 h4, Nat.le_trans h3.2 h4⟩
      · exact h2 y hy
theorem pairsS_len {l : BL} {xs : List (BL × BL)} (h : pairsS l = some xs) : xs.length ≤ 32 ∧ ∀ x ∈ xs, x.1.length ≤ l.length ∧ x.2.length ≤ l.length := by
  unfold pairsS at h
  split at h
  · cases h
  · rename_i hk
    have hp : ∀ p ∈ piecesS l, p.length ≤ l.length := fun p hp => by
      unfold piecesS at hp
      have h1 := mem_len (List.mem_filter.1 hp).1
      have h2 := spl_len 38 l []
      have h3 : 1 ≤ (spl 38 [] l).length := List.length_pos_of_mem (List.mem_filter.1 hp).1
      simp only [List.length_nil] at h2
      omega
    obtain ⟨h1, h2⟩ := piecesM_len _ _ _ h hp
    exact ⟨by omega, h2⟩
end Go.Proofs.YtegeijlookpgaaaDoor
