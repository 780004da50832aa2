/- Plain lists: a text in parts at each byte of a kind; rows of words; lines. No program in sight. -/
import Derived.Test.YtgjabbffpfhmjaaDoorAid
import Derived.Lib.Split
import Derived.Lib.IndexBytes
import Derived.Lib.IndexMore
import Derived.Lib.Bytealg
namespace Go.Proofs.YtgjabbffpfhmjaaDoor
open Go.RowKit Go

/-- A text in parts, at each byte b. -/
def fields (b : UInt8) : List UInt8 → List (List UInt8)
  | [] => [[]]
  | c :: r => if c = b then [] :: fields b r else match fields b r with
    | [] => [[c]]
    | h :: t => (c :: h) :: t
theorem fields_ne (b : UInt8) (l : List UInt8) : fields b l ≠ [] := by
  cases l with
  | nil => simp [fields]
  | cons c r => unfold fields; split; · simp
                split <;> simp
theorem index_ge (l : List UInt8) (b : UInt8) : -1 ≤ Lib.indexByte l b := Lib.indexByte_ge l b
theorem fields_miss (b : UInt8) : ∀ l : List UInt8, Lib.indexByte l b = -1 → fields b l = [l]
  | [], _ => rfl
  | c :: r, h => by
    unfold Lib.indexByte at h
    by_cases hc : c = b
    · simp [hc] at h
    · have hc' : (c == b) = false := by simpa using hc
      rw [hc'] at h
      simp only [Bool.false_eq_true, if_false] at h
      by_cases h1 : Lib.indexByte r b = -1
      · unfold fields
        rw [if_neg hc, fields_miss b r h1]
      · have := index_ge r b
        rw [if_neg (by simpa using h1)] at h
        omega
theorem fields_hit (b : UInt8) : ∀ (l : List UInt8) (i : Nat), Lib.indexByte l b = i → fields b l = l.take i :: fields b (l.drop (i + 1))
  | [], i, h => by simp [Lib.indexByte] at h
  | c :: r, i, h => by
    unfold Lib.indexByte at h
    by_cases hc : c = b
    · simp [hc] at h
      obtain rfl : i = 0 := by omega
      simp [fields, hc]
    · have hc' : (c == b) = false := by simpa using hc
      rw [hc'] at h
      simp only [Bool.false_eq_true, if_false] at h
      by_cases h1 : Lib.indexByte r b = -1
      · rw [if_pos (by simpa using h1)] at h; omega
      · have := index_ge r b
        rw [if_neg (by simpa using h1)] at h
        obtain ⟨j, rfl⟩ : ∃ j, i = j + 1 := ⟨i - 1, by omega⟩
        have ih := fields_hit b r j (by omega)
        rw [fields, if_neg hc, ih]
        simp
theorem index_one' (l : List UInt8) (b : UInt8) : Lib.index l [b] = Lib.indexByte l b := Lib.index_one l b

/-- How many parts Count finds: enough. -/
theorem splitK_fields (b : UInt8) : ∀ (k fuel : Nat) (l : List UInt8), l.length < fuel → k = Lib.countFrom [b] fuel l → Lib.splitK [b] 0 k l = fields b l
  | 0, fuel, l, hf, hk => by
    obtain ⟨f, rfl⟩ : ∃ f, fuel = f + 1 := ⟨fuel - 1, by omega⟩
    unfold Lib.countFrom at hk
    by_cases h : Lib.index l [b] = -1
    · rw [fields_miss b l (by rw [← index_one']; exact h)]; rfl
    · rw [if_neg (by simpa using h)] at hk; omega
  | k + 1, fuel, l, hf, hk => by
    obtain ⟨f, rfl⟩ : ∃ f, fuel = f + 1 := ⟨fuel - 1, by omega⟩
    unfold Lib.countFrom at hk
    by_cases h : Lib.index l [b] = -1
    · rw [if_pos (by simpa using h)] at hk; omega
    · rw [if_neg (by simpa using h)] at hk
      have hge := index_ge l b
      have h1 := index_one' l b
      obtain ⟨i, hi⟩ : ∃ i : Nat, Lib.index l [b] = i := ⟨(Lib.index l [b]).toNat, by omega⟩
      have hroom := Lib.index_room l [b] (by omega)
      have ih := splitK_fields b k f (l.drop (i + 1)) (by simp at hroom ⊢; omega) (by rw [hi] at hk; simp at hk; omega)
      unfold Lib.splitK
      rw [if_neg (by simpa using h), hi]
      simp only [Int.toNat_natCast, Nat.add_zero, List.length_cons, List.length_nil, Nat.zero_add]
      rw [ih, fields_hit b l i (by omega)]
theorem split_fields (b : UInt8) (s : ByteArray) : (Lib.splitB ⟨#[b]⟩ 0 (Lib.countB s ⟨#[b]⟩) s).map (·.data.toList) = fields b s.data.toList := by
  rw [Lib.splitB_data]
  exact splitK_fields b _ (s.data.toList.length + 1) s.data.toList (Nat.lt_succ_self _) rfl

def texts (l : List (List UInt8)) : List ByteArray := l.map fun r => ⟨r.toArray⟩
theorem split_texts (b : UInt8) (s : ByteArray) : Lib.splitB ⟨#[b]⟩ 0 (Lib.countB s ⟨#[b]⟩) s = texts (fields b s.data.toList) := by
  rw [← split_fields, texts, List.map_map]
  exact (List.map_id _).symm
theorem split_len (b : UInt8) (s : ByteArray) : Lib.countB s ⟨#[b]⟩ + 1 = (fields b s.data.toList).length := by
  have h : ∀ (k fuel : Nat) (l : List UInt8), l.length < fuel → k = Lib.countFrom [b] fuel l → (fields b l).length = k + 1 := by
    intro k
    induction k with
    | zero =>
      intro fuel l hf hk
      obtain ⟨f, rfl⟩ : ∃ f, fuel = f + 1 := ⟨fuel - 1, by omega⟩
      unfold Lib.countFrom at hk
      by_cases h : Lib.index l [b] = -1
      · rw [fields_miss b l (by rw [← index_one']; exact h)]; rfl
      · rw [if_neg (by simpa using h)] at hk; omega
    | succ k ih =>
      intro fuel l hf hk
      obtain ⟨f, rfl⟩ : ∃ f, fuel = f + 1 := ⟨fuel - 1, by omega⟩
      unfold Lib.countFrom at hk
      by_cases h : Lib.index l [b] = -1
      · rw [if_pos (by simpa using h)] at hk; omega
      · rw [if_neg (by simpa using h)] at hk
        have hge := index_ge l b
        have h1 := index_one' l b
        obtain ⟨i, hi⟩ : ∃ i : Nat, Lib.index l [b] = i := ⟨(Lib.index l [b]).toNat, by omega⟩
        have hroom := Lib.index_room l [b] (by omega)
        rw [fields_hit b l i (by omega), List.length_cons, ih f (l.drop (i + 1)) (by simp at hroom ⊢; omega) (by rw [hi] at hk; simp at hk; omega)]
  exact (h _ (s.data.toList.length + 1) s.data.toList (Nat.lt_succ_self _) rfl).symm

/-! ### rows of words -/
/-- A line's words, read from the left: 'none': two blanks stand together; else whether a blank is last. -/
def rowRun : Bool → List UInt8 → Option Bool
  | last, [] => some last
  | last, c :: r => if c = 32 then (if last = true then none else rowRun true r) else rowRun false r
theorem rowRun_skip (b : Bool) : ∀ (n : Nat) (l : List UInt8), 1 ≤ n → (∀ j, j < n → ∃ c, l[j]? = some c ∧ c ≠ 32) → rowRun b l = rowRun false (l.drop n)
  | 0, _, h, _ => by omega
  | n + 1, l, _, h => by
    obtain ⟨c, hc, hne⟩ := h 0 (by omega)
    cases l with
    | nil => simp at hc
    | cons d r =>
      obtain rfl : d = c := by simpa using hc
      rcases Nat.eq_zero_or_pos n with rfl | hn
      · simp [rowRun, hne]
      · have ih := rowRun_skip false n r hn (fun j hj => by simpa using h (j + 1) (by omega))
        simp only [rowRun, if_neg hne, List.drop_succ_cons, ih]
/-- Right: each word has a byte. -/
theorem rowRun_right : ∀ (b : Bool) (l : List UInt8), rowRun b l = some false ↔ ((∀ f ∈ (fields 32 l).tail, f ≠ []) ∧ (b = true → (fields 32 l).head? ≠ some []))
  | b, [] => by cases b <;> simp [rowRun, fields]
  | b, c :: r => by
    by_cases hc : c = 32
    · subst hc
      have ih := rowRun_right true r
      cases b with
      | true => simp [rowRun, fields]
      | false =>
        simp only [rowRun, if_true, Bool.false_eq_true, if_false, ih, fields, List.tail_cons, false_implies, and_true]
        cases hf : fields 32 r with
        | nil => exact absurd hf (fields_ne _ _)
        | cons h t => simp; exact And.comm
    · have ih := rowRun_right false r
      simp only [rowRun, if_neg hc, ih, fields]
      cases hf : fields 32 r with
      | nil => exact absurd hf (fields_ne _ _)
      | cons h t => simp
def rightRow (l : List UInt8) : Bool := (fields 32 l).all fun f => !f.isEmpty
theorem rightRow_iff (l : List UInt8) : rightRow l = true ↔ rowRun true l = some false := by
  rw [rowRun_right]
  unfold rightRow
  cases hf : fields 32 l with
  | nil => exact absurd hf (fields_ne _ _)
  | cons h t =>
    simp only [List.all_cons, Bool.and_eq_true, List.all_eq_true, List.tail_cons, List.head?_cons, ne_eq, Option.some.injEq, forall_const, Bool.not_eq_true', List.isEmpty_eq_false_iff]
    exact And.comm

/-! ### lines -/
inductive SR where
  | ok (l : List (List (List UInt8)))
  | bad (p : Nat)
/-- The lines of a text, line by line. -/
def sgo : Nat → Nat → List UInt8 → List (List (List UInt8)) → SR
  | 0, _, _, acc => .ok acc
  | fuel + 1, p, l, acc => if l = [] then .ok acc else
    if Lib.indexByte l 10 = -1 then .bad p else
    if rightRow (l.take (Lib.indexByte l 10).toNat) = true then sgo fuel (p + (Lib.indexByte l 10).toNat + 1) (l.drop ((Lib.indexByte l 10).toNat + 1)) (acc ++ [fields 32 (l.take (Lib.indexByte l 10).toNat)]) else .bad p
def qsplit (s : ByteArray) : SR := sgo (s.size + 1) 0 s.data.toList []
end Go.Proofs.YtgjabbffpfhmjaaDoor
