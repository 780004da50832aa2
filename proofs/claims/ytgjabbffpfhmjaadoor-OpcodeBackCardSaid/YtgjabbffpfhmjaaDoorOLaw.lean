/- Plain laws of operations' bytes: what is printed is read again; what is read is what is printed. No program in sight. -/
import Derived.Test.YtgjabbffpfhmjaaDoorOParse
import Derived.Test.YtgjabbffpfhmjaaDoorOPrint
import Derived.Test.YtgjabbffpfhmjaaDoorSLaw
namespace Go.Proofs.YtgjabbffpfhmjaaDoor
open Go.RowKit Go

/-- At place p stand the bytes bs; q is the place behind them. -/
def Rd (s : ByteArray) (p : Nat) (bs : List UInt8) (q : Nat) : Prop := q = p + bs.length ∧ q ≤ s.size ∧ s.data.toList.drop p = bs ++ s.data.toList.drop q
theorem Rd.nil {s : ByteArray} {p : Nat} (h : p ≤ s.size) : Rd s p [] p := ⟨by simp, h, rfl⟩
theorem Rd.trans {s : ByteArray} {p q r : Nat} {a b : List UInt8} (h : Rd s p a q) (k : Rd s q b r) : Rd s p (a ++ b) r :=
  ⟨by rw [k.1, h.1, List.length_append]; omega, k.2.1, by rw [h.2.2, k.2.2, List.append_assoc]⟩
theorem Rd.split {s : ByteArray} {p r : Nat} {a b : List UInt8} (h : Rd s p (a ++ b) r) : Rd s p a (p + a.length) ∧ Rd s (p + a.length) b r := by
  obtain ⟨h1, h2, h3⟩ := h
  rw [List.length_append] at h1
  have e : s.data.toList.drop (p + a.length) = b ++ s.data.toList.drop r := by
    rw [← List.drop_drop, h3, List.append_assoc, List.drop_left]
  exact ⟨⟨rfl, by omega, by rw [h3, e, List.append_assoc]⟩, ⟨by omega, h2, e⟩⟩
theorem Rd.cut {s : ByteArray} {p r : Nat} {a b : List UInt8} (h : Rd s p (a ++ b) r) : ∃ m, Rd s p a m ∧ Rd s m b r := ⟨_, h.split.1, h.split.2⟩
theorem Rd.none_ {s : ByteArray} {p q : Nat} (h : Rd s p [] q) : q = p := by have := h.1; simpa using this
theorem Rd.le {s : ByteArray} {p q : Nat} {a : List UInt8} (h : Rd s p a q) : p ≤ s.size := by
  have := h.1
  have := h.2.1
  omega
theorem Rd.at_ {s : ByteArray} {p q r : Nat} {a : List UInt8} (h : Rd s p a q) (e : q = r) : Rd s p a r := e ▸ h

/-! ### what is printed is read -/
theorem count_put {s : ByteArray} {p q n most c : Nat} (h : Rd s p (sput n) q) (hn : n < 18446744073709551616) (hm : n ≤ most) : countF s most c ⟨p, none⟩ = (n, ⟨q, none⟩) := by
  unfold countF
  simp only
  rw [stake_put n _ hn h.le h.2.2]
  unfold countT
  simp only
  rw [if_neg (by omega), h.1]
theorem kind_put {s : ByteArray} {p q n most : Nat} (h : Rd s p (sput n) q) (h1 : 1 ≤ n) (hm : n ≤ most) (hmost : most ≤ 10) : kindF s most ⟨p, none⟩ = (n, ⟨q, none⟩) := by
  unfold kindF
  rw [count_put h (by omega) hm]
  simp only
  rw [if_neg (by omega)]
theorem text_take {s t : ByteArray} {p q most : Nat} (h : Rd s p (stext t) q) (hm : t.size ≤ most) (hmost : most ≤ 10000000) : stext_ s p most = .ok t q := by
  unfold stext at h
  obtain ⟨h1, h2⟩ := h.split
  unfold stext_
  rw [stake_put t.size _ (by omega) h1.le h1.2.2]
  simp only
  have hq := h2.1
  have hqs := h2.2.1
  rw [data_len] at hq
  rw [if_neg (by omega), if_neg (by omega)]
  have e : s.extract (p + (sput t.size).length) (p + (sput t.size).length + t.size) = t := by
    apply str_ext
    rw [ByteArray.data_extract, Array.toList_extract]
    have h3 := h2.2.2
    rw [List.extract_eq_take_drop, h3]
    simp only [Nat.add_sub_cancel_left]
    rw [List.take_left' (data_len t)]
  rw [e, hq]
theorem text_put {s t : ByteArray} {p q most : Nat} (h : Rd s p (stext t) q) (hm : t.size ≤ most) (hmost : most ≤ 10000000) : textF s most ⟨p, none⟩ = (t, ⟨q, none⟩) := by
  unfold textF
  simp only
  rw [text_take h hm hmost]
  rfl
theorem int_put {s : ByteArray} {x : Int} {p q : Nat} (h : Rd s p (sput (zig x)) q) (hx : i64ok x) : intF s ⟨p, none⟩ = (x, ⟨q, none⟩) := by
  unfold intF
  simp only
  rw [stake_put (zig x) _ (zig_lt x hx.1 hx.2) h.le h.2.2]
  simp only
  rw [zag_zig, h.1]
theorem nat_of_kind {k : Int} {n : Nat} (h : k = n) : k.toNat = n := by omega
theorem emp_of {t : ByteArray} (h : t.toList.isEmpty = true) : t = ⟨#[]⟩ := by
  apply str_none
  have := List.isEmpty_iff.1 h
  rw [← str_len, this]
  rfl
theorem guard_put {s : ByteArray} {g : Grd} {p q : Nat} (h : Rd s p (gbytes g) q) (hg : goodG g = true) : guardF s ⟨p, none⟩ = (g, ⟨q, none⟩) := by
  obtain ⟨kind, key, val⟩ := g
  unfold goodG at hg
  simp only [Bool.and_eq_true, Bool.or_eq_true, decide_eq_true_eq, beq_iff_eq] at hg
  obtain ⟨⟨hk, hv⟩, h3⟩ := hg
  unfold gbytes at h
  simp only at h
  obtain ⟨m2, h1, h2⟩ := h.cut
  obtain ⟨m1, h0, h1b⟩ := h1.cut
  obtain ⟨n, rfl⟩ : ∃ n : Nat, kind = n := ⟨kind.toNat, by omega⟩
  simp only [Int.toNat_natCast] at h0
  unfold guardF
  rw [kind_put h0 (by omega) (by omega) (by decide)]
  simp only
  rw [text_put h1b hk (by decide)]
  simp only
  by_cases hn : n = 3
  · subst hn
    rw [if_pos (by decide)] at h2
    rw [if_pos rfl, text_put h2 hv (by decide)]
    rfl
  · rw [if_neg hn]
    rw [if_neg (by omega)] at h2
    obtain rfl := h2.none_
    obtain rfl := emp_of (show val.toList.isEmpty = true by rcases h3 with h | ⟨_, h⟩; (· omega); (· exact h))
    rfl
theorem step_put {s : ByteArray} {g : Stp} {p q : Nat} (h : Rd s p (sbytes g) q) (hg : goodS g = true) (hx : i64ok g.n) : stepF s ⟨p, none⟩ = (g, ⟨q, none⟩) := by
  obtain ⟨kind, key, val, old, x⟩ := g
  unfold goodS at hg
  simp only [Bool.and_eq_true, Bool.or_eq_true, decide_eq_true_eq, beq_iff_eq] at hg
  obtain ⟨⟨⟨hk, hv⟩, ho⟩, h3⟩ := hg
  unfold sbytes at h
  simp only at h hx
  obtain ⟨m2, h1, h2⟩ := h.cut
  obtain ⟨m1, h0, h1b⟩ := h1.cut
  obtain ⟨n, rfl⟩ : ∃ n : Nat, kind = n := ⟨kind.toNat, by omega⟩
  simp only [Int.toNat_natCast] at h0
  unfold stepF
  rw [kind_put h0 (by omega) (by omega) (by decide)]
  simp only
  rw [text_put h1b hk (by decide)]
  simp only
  by_cases n1 : n = 1
  · subst n1
    rw [if_pos (by decide)] at h2
    rw [if_pos rfl, text_put h2 hv (by decide)]
    obtain ⟨e1, e2⟩ : old.toList.isEmpty = true ∧ x = 0 := by rcases h3 with ((h | h) | h) | h <;> first | omega | exact ⟨h.1.2, h.2⟩
    obtain rfl := emp_of e1
    subst e2
    rfl
  rw [if_neg n1]
  by_cases n3 : n = 3
  · subst n3
    rw [if_neg (by decide), if_pos (by decide)] at h2
    rw [if_pos rfl, int_put h2 hx]
    obtain ⟨e1, e2⟩ : val.toList.isEmpty = true ∧ old.toList.isEmpty = true := by rcases h3 with ((h | h) | h) | h <;> first | omega | exact ⟨h.1.2, h.2⟩
    obtain rfl := emp_of e1
    obtain rfl := emp_of e2
    rfl
  rw [if_neg n3]
  by_cases n4 : n = 4
  · subst n4
    rw [if_neg (by decide), if_neg (by decide), if_pos (by decide)] at h2
    obtain ⟨m3, h2, h4⟩ := h2.cut
    rw [if_pos rfl, text_put h2 ho (by decide)]
    simp only
    rw [text_put h4 hv (by decide)]
    obtain e2 : x = 0 := by rcases h3 with ((h | h) | h) | h <;> first | omega | exact h.2
    subst e2
    rfl
  rw [if_neg n4]
  rw [if_neg (by omega), if_neg (by omega), if_neg (by omega)] at h2
  obtain rfl := h2.none_
  obtain ⟨e1, e2, e3⟩ : val.toList.isEmpty = true ∧ old.toList.isEmpty = true ∧ x = 0 := by rcases h3 with ((h | h) | h) | h <;> first | omega | exact ⟨h.1.1.2, h.1.2, h.2⟩
  obtain rfl := emp_of e1
  obtain rfl := emp_of e2
  subst e3
  rfl
theorem partsG_put {s : ByteArray} : ∀ (l : List Grd) (j p q : Nat) (acc : List Grd), Rd s p (l.flatMap gbytes) q → (l.all goodG = true) → partsG s l.length j ⟨p, none⟩ acc = (⟨q, none⟩, acc ++ l)
  | [], j, p, q, acc, h, _ => by
    obtain rfl := h.none_
    simp [partsG]
  | g :: l, j, p, q, acc, h, ha => by
    rw [List.flatMap_cons] at h
    obtain ⟨m, h1, h2⟩ := h.cut
    rw [List.all_cons, Bool.and_eq_true] at ha
    rw [List.length_cons, partsG, guard_put h1 ha.1]
    simp only
    rw [partsG_put l (j + 1) _ q _ h2 ha.2]
    simp
theorem partsS_put {s : ByteArray} : ∀ (l : List Stp) (j p q : Nat) (acc : List Stp), Rd s p (l.flatMap sbytes) q → (l.all goodS = true) → (∀ x ∈ l, i64ok x.n) → partsS s l.length j ⟨p, none⟩ acc = (⟨q, none⟩, acc ++ l)
  | [], j, p, q, acc, h, _, _ => by
    obtain rfl := h.none_
    simp [partsS]
  | g :: l, j, p, q, acc, h, ha, hx => by
    rw [List.flatMap_cons] at h
    obtain ⟨m, h1, h2⟩ := h.cut
    rw [List.all_cons, Bool.and_eq_true] at ha
    rw [List.length_cons, partsS, step_put h1 ha.1 (hx g List.mem_cons_self)]
    simp only
    rw [partsS_put l (j + 1) _ q _ h2 ha.2 (fun x hm => hx x (List.mem_cons_of_mem _ hm))]
    simp
theorem otake_put {s : ByteArray} {o : Opn} {p q : Nat} (h : Rd s p (obytes o) q) (hg : goodO o = true) (hx : ∀ x ∈ o.ss, i64ok x.n) : otake s p = .ok o q := by
  obtain ⟨gs, ss⟩ := o
  unfold goodO at hg
  simp only [Bool.and_eq_true, decide_eq_true_eq] at hg
  obtain ⟨⟨⟨⟨g1, s1⟩, s2⟩, ga⟩, sa⟩ := hg
  unfold obytes at h
  simp only at h hx
  obtain ⟨m3, h123, h4⟩ := h.cut
  obtain ⟨m2, h12, h3⟩ := h123.cut
  obtain ⟨m1, h1, h2⟩ := h12.cut
  unfold otake
  rw [count_put h1 (by omega) g1]
  simp only
  rw [partsG_put gs 0 _ _ [] h2 ga]
  simp only [List.nil_append]
  rw [count_put h3 (by omega) s2]
  have e4 : stepsSt (m2 : Int) (ss.length, ⟨(m3 : Int), none⟩) = ⟨(m3 : Int), none⟩ := by
    unfold stepsSt
    simp only
    rw [if_neg (by omega)]
  simp only
  rw [e4, partsS_put ss _ _ _ [] h4 sa hx]
  rfl

/-! ### what is read is what is printed -/
theorem Rd.of_drop {s : ByteArray} {p q : Nat} {a r : List UInt8} (h : s.data.toList.drop p = a ++ r) (hq : q = p + a.length) (hs : q ≤ s.size) : Rd s p a q :=
  ⟨hq, hs, by rw [h, hq, ← List.drop_drop, h, List.drop_left]⟩
theorem stake_rd {s : ByteArray} {p n nx : Nat} (h : stake s p = .ok n nx) : Rd s p (sput n) nx ∧ n < 18446744073709551616 := by
  obtain ⟨r, h1, h2, h3⟩ := stake_back h
  exact ⟨.of_drop h1 h2 (stake_next h).2.2, h3⟩
theorem count_back {s : ByteArray} {p most c : Nat} (h : (countF s most c ⟨p, none⟩).2.err = none) : ∃ q n, countF s most c ⟨p, none⟩ = (n, ⟨(q : Nat), none⟩) ∧ Rd s p (sput n) q ∧ n ≤ most := by
  unfold countF at h ⊢
  simp only at h ⊢
  cases hT : stake s p with
  | bad k => rw [hT] at h; cases h
  | ok n nx =>
    rw [hT] at h
    unfold countT at h ⊢
    simp only at h ⊢
    split at h
    · cases h
    · rename_i hn
      rw [if_neg hn]
      exact ⟨nx, n, rfl, (stake_rd hT).1, by omega⟩
theorem count_err {s : ByteArray} {most c : Nat} {st : RSt} (h : (countF s most c st).2.err = none) : st.err = none := by
  unfold countF at h
  split at h
  · exact h
  · assumption
theorem kind_back {s : ByteArray} {p most : Nat} (h : (kindF s most ⟨p, none⟩).2.err = none) : ∃ q n, kindF s most ⟨p, none⟩ = (n, ⟨(q : Nat), none⟩) ∧ Rd s p (sput n) q ∧ 1 ≤ n ∧ n ≤ most := by
  unfold kindF at h ⊢
  split at h
  · rename_i hc
    obtain ⟨q, n, e, h1, h2⟩ := count_back hc
    rw [e] at h ⊢
    simp only at h ⊢
    split at h
    · cases h
    · rename_i hn
      rw [if_neg hn]
      exact ⟨q, n, rfl, h1, by omega, h2⟩
  · rename_i e hc
    rw [hc] at h
    cases h
theorem kind_err {s : ByteArray} {most : Nat} {st : RSt} (h : (kindF s most st).2.err = none) : st.err = none := by
  unfold kindF at h
  split at h
  · rename_i hc; exact count_err hc
  · exact count_err h
theorem text_err {s : ByteArray} {most : Nat} {st : RSt} (h : (textF s most st).2.err = none) : st.err = none := by
  unfold textF at h
  split at h
  · exact h
  · assumption
theorem text_back {s : ByteArray} {p most : Nat} (h : (textF s most ⟨p, none⟩).2.err = none) : ∃ q t, textF s most ⟨p, none⟩ = (t, ⟨(q : Nat), none⟩) ∧ Rd s p (stext t) q ∧ t.size ≤ most := by
  unfold textF at h ⊢
  simp only at h ⊢
  unfold stext_ at h ⊢
  cases hT : stake s p with
  | bad k => rw [hT] at h; cases h
  | ok n nx =>
    rw [hT] at h
    simp only at h ⊢
    obtain ⟨h1, h2⟩ := stake_rd hT
    split at h
    · cases h
    · split at h
      · cases h
      · rename_i hn hz
        rw [if_neg hn, if_neg hz]
        have hnx := h1.2.1
        have hsz : (s.extract nx (nx + n)).size = n := by rw [ByteArray.size_extract]; omega
        refine ⟨nx + n, _, rfl, ?_, by rw [hsz]; omega⟩
        unfold stext
        rw [hsz]
        refine h1.trans (.of_drop (r := s.data.toList.drop (nx + n)) ?_ (by rw [data_len, hsz]) (by omega))
        rw [ByteArray.data_extract, Array.toList_extract, List.extract_eq_take_drop, Nat.add_sub_cancel_left, ← List.drop_drop, List.take_append_drop]
theorem int_back {s : ByteArray} {p : Nat} (h : (intF s ⟨p, none⟩).2.err = none) : ∃ (q : Nat) (x : Int), intF s ⟨p, none⟩ = (x, ⟨q, none⟩) ∧ Rd s p (sput (zig x)) q ∧ i64ok x := by
  unfold intF at h ⊢
  simp only at h ⊢
  cases hT : stake s p with
  | bad k => rw [hT] at h; cases h
  | ok n nx =>
    simp only
    obtain ⟨h1, h2⟩ := stake_rd hT
    refine ⟨nx, _, rfl, by rw [zig_zag]; exact h1, ?_⟩
    unfold i64ok zag
    split <;> omega
theorem int_err {s : ByteArray} {st : RSt} (h : (intF s st).2.err = none) : st.err = none := by
  unfold intF at h
  split at h
  · exact h
  · assumption
theorem emp_is : (⟨#[]⟩ : ByteArray).toList.isEmpty = true := by rw [ByteArray.toList_eq]; rfl
theorem emp_sz : (⟨#[]⟩ : ByteArray).size ≤ 32 := by decide
theorem guard_err {s : ByteArray} {st : RSt} (h : (guardF s st).2.err = none) : st.err = none := by
  unfold guardF at h
  split at h
  · exact kind_err (text_err (text_err h))
  · exact kind_err (text_err h)
theorem step_err {s : ByteArray} {st : RSt} (h : (stepF s st).2.err = none) : st.err = none := by
  unfold stepF at h
  split at h
  · exact kind_err (text_err (text_err h))
  split at h
  · exact kind_err (text_err (int_err h))
  split at h
  · exact kind_err (text_err (text_err (text_err h)))
  · exact kind_err (text_err h)
theorem guard_back {s : ByteArray} {p : Nat} (h : (guardF s ⟨p, none⟩).2.err = none) : ∃ (q : Nat) (g : Grd), guardF s ⟨p, none⟩ = (g, ⟨q, none⟩) ∧ Rd s p (gbytes g) q ∧ goodG g = true := by
  unfold guardF at h ⊢
  by_cases h3 : (kindF s 3 ⟨p, none⟩).1 = 3
  · rw [if_pos h3] at h ⊢
    obtain ⟨q1, n, e1, r1, _, _⟩ := kind_back (text_err (text_err h))
    rw [e1] at h h3 ⊢
    simp only at h h3
    subst h3
    obtain ⟨q2, key, e2, r2, hk⟩ := text_back (text_err h)
    rw [e2] at h ⊢
    obtain ⟨q3, val, e3, r3, hv⟩ := text_back h
    rw [e3]
    refine ⟨q3, ⟨3, key, val⟩, rfl, ?_, by simp [goodG, hk, hv]⟩
    unfold gbytes
    simp only [if_true]
    exact (r1.trans r2).trans r3
  · rw [if_neg h3] at h ⊢
    obtain ⟨q1, n, e1, r1, _, _⟩ := kind_back (text_err h)
    rw [e1] at h h3 ⊢
    simp only at h h3
    obtain ⟨q2, key, e2, r2, hk⟩ := text_back h
    rw [e2]
    refine ⟨q2, ⟨n, key, ⟨#[]⟩⟩, rfl, ?_, ?_⟩
    · unfold gbytes
      simp only
      rw [if_neg (by omega), Int.toNat_natCast, List.append_nil]
      exact r1.trans r2
    · have hn : n = 1 ∨ n = 2 := by omega
      unfold goodG
      rcases hn with rfl | rfl <;> simp [hk, emp_is, emp_sz]
theorem step_back {s : ByteArray} {p : Nat} (h : (stepF s ⟨p, none⟩).2.err = none) : ∃ (q : Nat) (g : Stp), stepF s ⟨p, none⟩ = (g, ⟨q, none⟩) ∧ Rd s p (sbytes g) q ∧ goodS g = true ∧ i64ok g.n := by
  have z0 : i64ok 0 := ⟨by decide, by decide⟩
  unfold stepF at h ⊢
  by_cases h1 : (kindF s 4 ⟨p, none⟩).1 = 1
  · rw [if_pos h1] at h ⊢
    obtain ⟨q1, n, e1, r1, _, _⟩ := kind_back (text_err (text_err h))
    rw [e1] at h h1 ⊢
    simp only at h h1
    subst h1
    obtain ⟨q2, key, e2, r2, hk⟩ := text_back (text_err h)
    rw [e2] at h ⊢
    obtain ⟨q3, val, e3, r3, hv⟩ := text_back h
    rw [e3]
    refine ⟨q3, ⟨1, key, val, ⟨#[]⟩, 0⟩, rfl, ?_, by simp [goodS, hk, hv, emp_is, emp_sz], z0⟩
    unfold sbytes
    simp only [if_true]
    exact (r1.trans r2).trans r3
  rw [if_neg h1] at h ⊢
  by_cases h3 : (kindF s 4 ⟨p, none⟩).1 = 3
  · rw [if_pos h3] at h ⊢
    obtain ⟨q1, n, e1, r1, _, _⟩ := kind_back (text_err (int_err h))
    rw [e1] at h h3 ⊢
    simp only at h h3
    subst h3
    obtain ⟨q2, key, e2, r2, hk⟩ := text_back (int_err h)
    rw [e2] at h ⊢
    obtain ⟨q3, x, e3, r3, hx⟩ := int_back h
    rw [e3]
    refine ⟨q3, ⟨3, key, ⟨#[]⟩, ⟨#[]⟩, x⟩, rfl, ?_, by simp [goodS, hk, emp_is, emp_sz], hx⟩
    unfold sbytes
    simp only
    rw [if_neg (by decide), if_pos (by decide)]
    exact (r1.trans r2).trans r3
  rw [if_neg h3] at h ⊢
  by_cases h4 : (kindF s 4 ⟨p, none⟩).1 = 4
  · rw [if_pos h4] at h ⊢
    obtain ⟨q1, n, e1, r1, _, _⟩ := kind_back (text_err (text_err (text_err h)))
    rw [e1] at h h4 ⊢
    simp only at h h4
    subst h4
    obtain ⟨q2, key, e2, r2, hk⟩ := text_back (text_err (text_err h))
    rw [e2] at h ⊢
    obtain ⟨q3, old, e3, r3, ho⟩ := text_back (text_err h)
    rw [e3] at h ⊢
    obtain ⟨q4, val, e4, r4, hv⟩ := text_back h
    rw [e4]
    refine ⟨q4, ⟨4, key, val, old, 0⟩, rfl, ?_, by simp [goodS, hk, hv, ho], z0⟩
    unfold sbytes
    simp only
    rw [if_neg (by decide), if_neg (by decide), if_pos (by decide)]
    exact (r1.trans r2).trans (r3.trans r4)
  rw [if_neg h4] at h ⊢
  obtain ⟨q1, n, e1, r1, l1, l2⟩ := kind_back (text_err h)
  rw [e1] at h h1 h3 h4 ⊢
  simp only at h h1 h3 h4
  obtain rfl : n = 2 := by omega
  obtain ⟨q2, key, e2, r2, hk⟩ := text_back h
  rw [e2]
  refine ⟨q2, ⟨2, key, ⟨#[]⟩, ⟨#[]⟩, 0⟩, rfl, ?_, by simp [goodS, hk, emp_is, emp_sz], z0⟩
  unfold sbytes
  simp only
  rw [if_neg (by decide), if_neg (by decide), if_neg (by decide), List.append_nil]
  exact r1.trans r2
theorem parts_errG {s : ByteArray} {k j : Nat} {st : RSt} {l : List Grd} (h : (partsG s k j st l).1.err = none) : st.err = none := by
  cases hE : st.err with
  | none => rfl
  | some e => rw [partsG_err hE] at h; rw [hE] at h; cases h
theorem parts_errS {s : ByteArray} {k j : Nat} {st : RSt} {l : List Stp} (h : (partsS s k j st l).1.err = none) : st.err = none := by
  cases hE : st.err with
  | none => rfl
  | some e => rw [partsS_err hE] at h; rw [hE] at h; cases h
theorem partsG_back {s : ByteArray} : ∀ (k j p : Nat) (acc : List Grd), p ≤ s.size → (partsG s k j ⟨p, none⟩ acc).1.err = none → ∃ (q : Nat) (l : List Grd), partsG s k j ⟨p, none⟩ acc = (⟨q, none⟩, acc ++ l) ∧ Rd s p (l.flatMap gbytes) q ∧ l.all goodG = true ∧ l.length = k
  | 0, j, p, acc, hp, _ => ⟨p, [], by simp [partsG], .nil hp, rfl, rfl⟩
  | k + 1, j, p, acc, hp, h => by
    rw [partsG] at h ⊢
    simp only at h ⊢
    split at h
    · rename_i hg
      obtain ⟨q1, g, e1, r1, g1⟩ := guard_back hg
      rw [e1] at h ⊢
      simp only at h ⊢
      obtain ⟨q, l, e2, r2, g2, e3⟩ := partsG_back k (j + 1) q1 _ r1.2.1 h
      exact ⟨q, g :: l, by rw [e2]; simp, by rw [List.flatMap_cons]; exact r1.trans r2, by rw [List.all_cons, g1, g2]; rfl, by rw [List.length_cons, e3]⟩
    · cases h
theorem partsS_back {s : ByteArray} : ∀ (k j p : Nat) (acc : List Stp), p ≤ s.size → (partsS s k j ⟨p, none⟩ acc).1.err = none → ∃ (q : Nat) (l : List Stp), partsS s k j ⟨p, none⟩ acc = (⟨q, none⟩, acc ++ l) ∧ Rd s p (l.flatMap sbytes) q ∧ l.all goodS = true ∧ l.length = k ∧ ∀ x ∈ l, i64ok x.n
  | 0, j, p, acc, hp, _ => ⟨p, [], by simp [partsS], .nil hp, rfl, rfl, fun _ h => by cases h⟩
  | k + 1, j, p, acc, hp, h => by
    rw [partsS] at h ⊢
    simp only at h ⊢
    split at h
    · rename_i hg
      obtain ⟨q1, g, e1, r1, g1, x1⟩ := step_back hg
      rw [e1] at h ⊢
      simp only at h ⊢
      obtain ⟨q, l, e2, r2, g2, e3, x2⟩ := partsS_back k (j + 1) q1 _ r1.2.1 h
      refine ⟨q, g :: l, by rw [e2]; simp, by rw [List.flatMap_cons]; exact r1.trans r2, by rw [List.all_cons, g1, g2]; rfl, by rw [List.length_cons, e3], fun x hx => ?_⟩
      rcases List.mem_cons.1 hx with rfl | hx
      · exact x1
      · exact x2 x hx
    · cases h
theorem otake_back {s : ByteArray} {p : Nat} {o : Opn} {nx : Int} (h : otake s p = .ok o nx) : ∃ q : Nat, nx = q ∧ Rd s p (obytes o) q ∧ goodO o = true ∧ ∀ x ∈ o.ss, i64ok x.n := by
  unfold otake at h
  simp only at h
  unfold endT at h
  split at h
  · rename_i he
    have h3 := parts_errS he
    have h2 : ∀ q r, (stepsSt q r).err = none → r.2.err = none ∧ r.1 ≠ 0 ∧ stepsSt q r = r.2 := fun q r hh => by
      unfold stepsSt at hh ⊢
      split at hh
      · rename_i hr
        split at hh
        · cases hh
        · rename_i hn
          exact ⟨hr, hn, by rw [if_neg hn]⟩
      · rename_i e hr
        rw [hr] at hh; cases hh
    obtain ⟨h4, h5, h6⟩ := h2 _ _ h3
    have h7 := count_err h4
    have h8 := parts_errG h7
    obtain ⟨q1, n, e1, r1, l1⟩ := count_back h8
    rw [e1] at he h h4 h5 h6 h7
    simp only at he h h4 h5 h6 h7
    obtain ⟨q2, gs, e2, r2, a2, n2⟩ := partsG_back n 0 q1 [] r1.2.1 h7
    rw [e2] at he h h4 h5 h6
    simp only [List.nil_append] at he h h4 h5 h6
    obtain ⟨q3, m, e3, r3, l3⟩ := count_back h4
    rw [e3] at he h h5 h6
    simp only at he h h5 h6
    rw [h6] at he h
    obtain ⟨q4, ss, e4, r4, a4, n4, x4⟩ := partsS_back m n q3 [] r3.2.1 he
    rw [e4] at h
    simp only [List.nil_append] at h
    cases h
    refine ⟨q4, rfl, ?_, ?_, x4⟩
    · unfold obytes
      simp only
      rw [n2, n4]
      exact ((r1.trans r2).trans r3).trans r4
    · unfold goodO
      simp only [Bool.and_eq_true, decide_eq_true_eq]
      exact ⟨⟨⟨⟨by omega, by omega⟩, by omega⟩, a2⟩, a4⟩
  · cases h
theorem rd_whole {s : ByteArray} {b : List UInt8} (h : Rd s 0 b s.size) : s = ⟨b.toArray⟩ := by
  apply str_ext
  have := h.2.2
  rw [List.drop_of_length_le (i := s.size) (by rw [data_len]; exact Nat.le_refl _)] at this
  simpa using this
theorem whole_rd (b r : List UInt8) : Rd ⟨(b ++ r).toArray⟩ 0 b b.length :=
  .of_drop (r := r) (by simp) (by simp) (by rw [str_size, List.length_append]; omega)
/-- Bytes that are an operation's. -/
theorem oparse_ok {s : ByteArray} {o : Opn} {nx : Int} (h : oparse s = .ok o nx) : goodO o = true ∧ (∀ x ∈ o.ss, i64ok x.n) ∧ s = ⟨(obytes o).toArray⟩ := by
  unfold oparse at h
  cases hT : otake s 0 with
  | bad e => rw [hT] at h; cases h
  | ok o' nx' =>
    rw [hT] at h
    simp only at h
    split at h
    · cases h
    · cases h
      obtain ⟨q, rfl, r, g, x⟩ := otake_back (p := 0) hT
      have := r.2.1
      exact ⟨g, x, rd_whole (r.at_ (by omega))⟩
theorem oparse_put {o : Opn} (hg : goodO o = true) (hx : ∀ x ∈ o.ss, i64ok x.n) : oparse ⟨(obytes o).toArray⟩ = .ok o (obytes o).length := by
  have h := whole_rd (obytes o) []
  rw [List.append_nil] at h
  unfold oparse
  have e := otake_put h hg hx
  rw [show ((0 : Nat) : Int) = 0 from rfl] at e
  rw [e]
  simp only
  rw [if_neg (by rw [str_size]; omega)]
end Go.Proofs.YtgjabbffpfhmjaaDoor
