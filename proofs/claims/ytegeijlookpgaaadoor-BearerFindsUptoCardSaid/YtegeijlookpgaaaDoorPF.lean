/- Plain law: the grammars of header fields, on lists of bytes. -/
namespace Go.Proofs.YtegeijlookpgaaaDoor
abbrev BL := List UInt8
def kindsTab : List Nat := [
  0, 0, 0, 0, 0, 0, 0, 0, 0, 12, 0, 0, 0, 0, 0, 0,
  0, 0, 0, 0, 0, 0, 0, 0, 0, 0, 0, 0, 0, 0, 0, 0,
  12, 7, 4, 7, 7, 7, 7, 7, 6, 6, 7, 7, 4, 7, 7, 6,
  7, 7, 7, 7, 7, 7, 7, 7, 7, 7, 6, 4, 6, 6, 6, 6,
  6, 7, 7, 7, 7, 7, 7, 7, 7, 7, 7, 7, 7, 7, 7, 7,
  7, 7, 7, 7, 7, 7, 7, 7, 7, 7, 7, 6, 4, 6, 7, 7,
  7, 7, 7, 7, 7, 7, 7, 7, 7, 7, 7, 7, 7, 7, 7, 7,
  7, 7, 7, 7, 7, 7, 7, 7, 7, 7, 7, 6, 7, 6, 7, 0,
  4, 4, 4, 4, 4, 4, 4, 4, 4, 4, 4, 4, 4, 4, 4, 4,
  4, 4, 4, 4, 4, 4, 4, 4, 4, 4, 4, 4, 4, 4, 4, 4,
  4, 4, 4, 4, 4, 4, 4, 4, 4, 4, 4, 4, 4, 4, 4, 4,
  4, 4, 4, 4, 4, 4, 4, 4, 4, 4, 4, 4, 4, 4, 4, 4,
  4, 4, 4, 4, 4, 4, 4, 4, 4, 4, 4, 4, 4, 4, 4, 4,
  4, 4, 4, 4, 4, 4, 4, 4, 4, 4, 4, 4, 4, 4, 4, 4,
  4, 4, 4, 4, 4, 4, 4, 4, 4, 4, 4, 4, 4, 4, 4, 4,
  4, 4, 4, 4, 4, 4, 4, 4, 4, 4, 4, 4, 4, 4, 4, 4]
def alnum (c : UInt8) : Bool := (65 ≤ c && c ≤ 90) || (97 ≤ c && c ≤ 122) || (48 ≤ c && c ≤ 57)
def marksL : BL := [33, 35, 36, 37, 38, 39, 42, 43, 45, 46, 94, 95, 124, 126, 96]
def tokB (c : UInt8) : Bool := alnum c || marksL.contains c
def valB (c : UInt8) : Bool := c == 9 || (32 ≤ c && c ≤ 126) || 128 ≤ c
def whiteB (c : UInt8) : Bool := c == 32 || c == 9
def lowB (c : UInt8) : UInt8 := if 65 ≤ c && c ≤ 90 then c + 32 else c
def low (l : BL) : BL := l.map lowB
/-- the kinds of bytes by the table -/
def kindB (k : Nat) (c : UInt8) : Bool := (kindsTab.getD c.toNat 0) &&& k != 0
theorem kind_tok (c : UInt8) : kindB 1 c = tokB c := by
  have h : ∀ n : Fin 256, kindB 1 (UInt8.ofNat n.val) = tokB (UInt8.ofNat n.val) := by decide +kernel
  have := h ⟨c.toNat, c.toNat_lt⟩
  simpa using this
theorem kind_val (c : UInt8) : kindB 4 c = valB c := by
  have h : ∀ n : Fin 256, kindB 4 (UInt8.ofNat n.val) = valB (UInt8.ofNat n.val) := by decide +kernel
  have := h ⟨c.toNat, c.toNat_lt⟩
  simpa using this
theorem kind_white (c : UInt8) : kindB 8 c = whiteB c := by
  have h : ∀ n : Fin 256, kindB 8 (UInt8.ofNat n.val) = whiteB (UInt8.ofNat n.val) := by decide +kernel
  have := h ⟨c.toNat, c.toNat_lt⟩
  simpa using this

def quotedS : BL → Option BL
  | [] => none
  | c :: r => if c = 34 then some r else if c = 92 then (match r with | [] => none | d :: r' => if valB d then quotedS r' else none) else if valB c then quotedS r else none
theorem quoted_q (r : BL) : quotedS (34 :: r) = some r := by cases r <;> simp [quotedS]
theorem quoted_e0 : quotedS [92] = none := by simp [quotedS]
theorem quoted_e (d : UInt8) (r : BL) : quotedS (92 :: d :: r) = if valB d then quotedS r else none := by simp [quotedS]
theorem quoted_o (c : UInt8) (r : BL) (h1 : c ≠ 34) (h2 : c ≠ 92) : quotedS (c :: r) = if valB c then quotedS r else none := by cases r <;> simp [quotedS, h1, h2]
def tokD (l : BL) : BL := l.dropWhile tokB
def whiteD (l : BL) : BL := l.dropWhile whiteB
def noTok (l : BL) : Bool := match l with | [] => true | c :: _ => !tokB c
def paramS (l : BL) : Option BL :=
  if noTok l then none else
  match tokD l with
  | [] => none
  | c :: r2 => if c = 61 then (match r2 with
      | [] => none
      | d :: r3 => if d = 34 then quotedS r3 else if tokB d then some (tokD r2) else none) else none
def paramsS : Nat → BL → Bool
  | 0, _ => false
  | n + 1, l => match l with
    | [] => true
    | _ :: _ => match whiteD l with
      | [] => false
      | c :: r => if c = 59 then (if noTok (whiteD r) then paramsS n (whiteD r) else match paramS (whiteD r) with | none => false | some r2 => paramsS n r2) else false
theorem dropWhile_len (p : UInt8 → Bool) (l : BL) : (l.dropWhile p).length ≤ l.length := (List.dropWhile_sublist p).length_le
theorem quoted_len : ∀ (l r : BL), quotedS l = some r → r.length < l.length
  | [], r, h => by simp [quotedS] at h
  | [c], r, h => by
    simp only [quotedS] at h
    split at h
    · simp at h; subst h; simp
    · split at h <;> simp at h
  | c :: d :: l, r, h => by
    rw [quotedS] at h
    split at h
    · simp at h; subst h; simp
    · split at h
      · split at h
        · have := quoted_len l r h; simp; omega
        · simp at h
      · split at h
        · have := quoted_len (d :: l) r h; simp at this ⊢; omega
        · simp at h
theorem param_len (l r : BL) (h : paramS l = some r) : r.length < l.length := by
  unfold paramS at h
  split at h
  · simp at h
  · have h0 := dropWhile_len tokB l
    split at h
    · simp at h
    · rename_i c r2 hc
      have h1 : (tokD l).length = r2.length + 1 := by rw [hc]; rfl
      unfold tokD at h1
      split at h
      · split at h
        · simp at h
        · rename_i d r3
          split at h
          · have := quoted_len _ _ h; simp at h1; omega
          · split at h
            · simp at h; subst h
              have := dropWhile_len tokB (d :: r3); unfold tokD; omega
            · simp at h
      · simp at h
/-- more rounds change nothing -/
theorem params_more : ∀ (n m : Nat) (l : BL), l.length < n → l.length < m → paramsS n l = paramsS m l
  | 0, _, l, h, _ => by omega
  | _, 0, l, _, h => by omega
  | n + 1, m + 1, [], _, _ => by simp [paramsS]
  | n + 1, m + 1, a :: l, hn, hm => by
    simp only [paramsS]
    have h1 := dropWhile_len whiteB (a :: l)
    split
    · rfl
    · rename_i c r hc
      have h2 : (whiteD (a :: l)).length = r.length + 1 := by rw [hc]; rfl
      have h3 := dropWhile_len whiteB r
      unfold whiteD at h2
      simp only [List.length_cons] at *
      split
      · split
        · exact params_more n m _ (by unfold whiteD; omega) (by unfold whiteD; omega)
        · split
          · rfl
          · rename_i r2 hr2
            have h4 := param_len _ _ hr2
            unfold whiteD at h4
            exact params_more n m _ (by omega) (by omega)
      · rfl
theorem paramsS_cons (n : Nat) (a : UInt8) (t : BL) : paramsS (n + 1) (a :: t) = match whiteD (a :: t) with
      | [] => false
      | c :: r => if c = 59 then (if noTok (whiteD r) then paramsS n (whiteD r) else match paramS (whiteD r) with | none => false | some r2 => paramsS n r2) else false := rfl
def PS (l : BL) : Bool := paramsS (l.length + 1) l
theorem PS_nil : PS [] = true := rfl
theorem PS_step {l : BL} (h : l ≠ []) {c : UInt8} {r : BL} (hw : whiteD l = c :: r) (hc : c = 59) :
    PS l = (if noTok (whiteD r) then PS (whiteD r) else match paramS (whiteD r) with | none => false | some r2 => PS r2) := by
  obtain ⟨a, t, rfl⟩ : ∃ a t, l = a :: t := by cases l with | nil => exact absurd rfl h | cons a t => exact ⟨a, t, rfl⟩
  have h1 := dropWhile_len whiteB (a :: t)
  have h2 : (whiteD (a :: t)).length = r.length + 1 := by rw [hw]; rfl
  have h3 := dropWhile_len whiteB r
  unfold whiteD at h2
  simp only [List.length_cons] at *
  conv => lhs; unfold PS
  show paramsS (t.length + 1 + 1) (a :: t) = _
  rw [paramsS_cons, hw]
  simp only [hc, if_true]
  split
  · unfold PS
    exact params_more _ _ _ (by unfold whiteD; omega) (by omega)
  · split
    · rfl
    · rename_i r2 hr2
      have h4 := param_len _ _ hr2
      unfold whiteD at h4
      unfold PS
      exact params_more _ _ _ (by omega) (by omega)
theorem PS_no {l : BL} (h : l ≠ []) (hw : ∀ r, whiteD l ≠ 59 :: r) : PS l = false := by
  obtain ⟨a, t, rfl⟩ : ∃ a t, l = a :: t := by cases l with | nil => exact absurd rfl h | cons a t => exact ⟨a, t, rfl⟩
  unfold PS
  rw [List.length_cons, paramsS_cons]
  split
  · rfl
  · rename_i c r hc
    rw [if_neg]
    rintro rfl
    exact hw _ hc
def mediaS (l : BL) : Option BL :=
  if noTok l then none else
  match tokD l with
  | [] => none
  | c :: r => if c = 47 then (if noTok r then none else if paramsS ((tokD r).length + 1) (tokD r) then some (low (l.take (l.length - (tokD r).length))) else none) else none

/-! ### percent coding and forms, read -/
def hexV (c : UInt8) : Nat := if 48 ≤ c.toNat ∧ c.toNat ≤ 57 then c.toNat - 48 else if 65 ≤ c.toNat ∧ c.toNat ≤ 70 then c.toNat - 55 else if 97 ≤ c.toNat ∧ c.toNat ≤ 102 then c.toNat - 87 else 16
theorem hexV_le (c : UInt8) : hexV c ≤ 16 := by unfold hexV; split <;> (try split) <;> (try split) <;> omega
def unesc (plus : Bool) : BL → Option BL
  | [] => some []
  | c :: r => if c = 37 then (match r with | a :: b :: r' => if hexV a ≤ 15 ∧ hexV b ≤ 15 then (unesc plus r').map (UInt8.ofNat (16 * hexV a + hexV b) :: ·) else none | _ => none)
    else if c = 43 ∧ plus = true then (unesc plus r).map (32 :: ·) else if 33 ≤ c.toNat ∧ c.toNat ≤ 126 then (unesc plus r).map (c :: ·) else none
theorem unesc_nil (p : Bool) : unesc p [] = some [] := by simp [unesc]
theorem unesc_pct (p : Bool) (a b : UInt8) (r : BL) : unesc p (37 :: a :: b :: r) = if hexV a ≤ 15 ∧ hexV b ≤ 15 then (unesc p r).map (UInt8.ofNat (16 * hexV a + hexV b) :: ·) else none := by simp [unesc]
theorem unesc_pct1 (p : Bool) (a : UInt8) : unesc p [37, a] = none := by simp [unesc]
theorem unesc_pct0 (p : Bool) : unesc p [37] = none := by simp [unesc]
theorem unesc_plus (r : BL) : unesc true (43 :: r) = (unesc true r).map (32 :: ·) := by
  conv => lhs; unfold unesc
  rw [if_neg (by decide), if_pos ⟨rfl, rfl⟩]
theorem unesc_char (p : Bool) (c : UInt8) (r : BL) (h1 : c ≠ 37) (h2 : ¬ (c = 43 ∧ p = true)) : unesc p (c :: r) = if 33 ≤ c.toNat ∧ c.toNat ≤ 126 then (unesc p r).map (c :: ·) else none := by
  conv => lhs; unfold unesc
  rw [if_neg h1, if_neg h2]
theorem unesc_len (p : Bool) : ∀ (l m : BL), unesc p l = some m → m.length ≤ l.length
  | [], m, h => by simp [unesc] at h; subst h; simp
  | c :: r, m, h => by
    by_cases h1 : c = 37
    · subst h1
      match r, h with
      | [], h => simp [unesc] at h
      | [a], h => simp [unesc] at h
      | a :: b :: r', h =>
        rw [unesc_pct] at h
        split at h
        · simp only [Option.map_eq_some_iff] at h
          obtain ⟨t, ht, rfl⟩ := h
          have := unesc_len p r' t ht
          simp; omega
        · simp at h
    · by_cases h2 : c = 43 ∧ p = true
      · obtain ⟨rfl, rfl⟩ := h2
        rw [unesc_plus] at h
        simp only [Option.map_eq_some_iff] at h
        obtain ⟨t, ht, rfl⟩ := h
        have := unesc_len true r t ht
        simp; omega
      · rw [unesc_char p c r h1 h2] at h
        split at h
        · simp only [Option.map_eq_some_iff] at h
          obtain ⟨t, ht, rfl⟩ := h
          have := unesc_len p r t ht
          simp; omega
        · simp at h
end Go.Proofs.YtegeijlookpgaaaDoor
