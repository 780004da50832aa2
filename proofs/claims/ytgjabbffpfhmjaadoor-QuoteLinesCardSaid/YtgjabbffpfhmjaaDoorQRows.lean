/- Rows of texts in memory; quote.rows. -/
import Derived.Test.YtgjabbffpfhmjaaDoorQParse
import Derived.Test.YtgjabbffpfhmjaaDoorFld
namespace Go.Proofs.YtgjabbffpfhmjaaDoor
open Go.RowKit Go.Extern.Stop Go.Stop Go.Extern Go.Proofs.YtgjabbffpfhmjaaDoorW.PrintWords

/-- A slice of texts that is read. -/
def Strs (w : World) (v : Value) (r : List ByteArray) : Prop :=
  ∃ A c, v = .slice A r.length c ∧ r.length ≤ c ∧ ∀ (j : Nat) (x : ByteArray), r[j]? = some x → ∃ b off, A = some ⟨b, off, none⟩ ∧ w.cell? ⟨b, off + j, none⟩ = some (.string x)
/-- .. whose row is one of texts: it stays where a row of another type is written. -/
def StrsT (w : World) (v : Value) (r : List ByteArray) : Prop :=
  (r = [] ∧ ∃ A c, v = .slice A 0 c) ∨ ∃ g off c cs fr, v = .slice (some ⟨g, off, none⟩) r.length c ∧ r.length ≤ c ∧ w.heap[g]? = some (.cells cs 9 fr) ∧ ∀ (j : Nat) (x : ByteArray), r[j]? = some x → cs[off + j]? = some (.string x)
theorem StrsT.reads {w : World} {v : Value} {r : List ByteArray} (h : StrsT w v r) : Strs w v r := by
  rcases h with ⟨rfl, A, c, rfl⟩ | ⟨g, off, c, cs, fr, rfl, hc, hb, h⟩
  · exact ⟨A, c, rfl, Nat.zero_le _, fun j x hj => by simp at hj⟩
  · exact ⟨_, c, rfl, hc, fun j x hj => ⟨g, off, rfl, (blk_cell hb (off + j)).trans (h j x hj)⟩⟩
theorem StrsT.kept {w w1 : World} {v : Value} {r : List ByteArray} (h : StrsT w v r) (hk : ∀ (k : Nat) (cs : Array Value) (fr : Nat × Nat), w.heap[k]? = some (Obj.cells cs 9 fr) → w1.heap[k]? = w.heap[k]?) : StrsT w1 v r := by
  rcases h with h | ⟨g, off, c, cs, fr, hv, hc, hb, h⟩
  · exact .inl h
  · exact .inr ⟨g, off, c, cs, fr, hv, hc, (hk g cs fr hb).trans hb, h⟩
theorem StrsT.grow {w w1 : World} {v : Value} {r : List ByteArray} (h : StrsT w v r) (hb : Below w.heap.size w w1) : StrsT w1 v r :=
  h.kept fun k _ _ hk => hb.block k (blk_lt' hk)
theorem Strs.grow {w w1 : World} {v : Value} {r : List ByteArray} (h : Strs w v r) (hb : Below w.heap.size w w1) : Strs w1 v r := by
  obtain ⟨A, c, hv, hc, h⟩ := h
  exact ⟨A, c, hv, hc, fun j x hj => let ⟨b, off, h1, h2⟩ := h j x hj; ⟨b, off, h1, cell_below hb h2⟩⟩
theorem StrsT.new (w : World) (r : List ByteArray) : StrsT (w.alloc (.cells (r.map Value.string).toArray 9)) (.slice (some ⟨w.heap.size, 0, none⟩) r.length r.length) r :=
  .inr ⟨w.heap.size, 0, r.length, _, _, rfl, Nat.le_refl _, heap_new _ _, fun j x hj => by simp [hj]⟩
theorem StrsT.own {w : World} {base n : Nat} {v : Value} {r : List ByteArray} (h : w.ownsRow base 9 1 v n (r.map Value.string)) : StrsT w v r := by
  have hl : r.length = n := by have := h.1; simp at this; exact this
  rcases h.2 with ⟨rfl, h0⟩ | ⟨g, cap, cur, rfl, _, hh, h1, h2, h3, h4⟩
  · exact .inl ⟨List.eq_nil_of_length_eq_zero (by omega), none, 0, rfl⟩
  · refine .inr ⟨g, 0, cap, cur, _, by rw [hl], by omega, hh, fun j x hj => ?_⟩
    have hj' : (r.map Value.string)[j]? = some (.string x) := by simp [hj]
    rw [← h4, List.getElem?_take] at hj'
    rw [Nat.zero_add]
    split at hj'
    · rw [← Array.getElem?_toList]; exact hj'
    · cases hj'

/-- A slice of such slices, of the call's own. -/
def RowsT (w : World) (base : Nat) (v : Value) (l : List (List ByteArray)) : Prop :=
  ∃ cs, cs.length = l.length ∧ w.ownsRow base 51 1 v cs.length cs ∧ (∀ c ∈ cs, c.oneCell' = true) ∧ ∀ (j : Nat) (c : Value) (r : List ByteArray), cs[j]? = some c → l[j]? = some r → StrsT w c r
/-- .. that is read. -/
def StrRows (w : World) (v : Value) (l : List (List ByteArray)) : Prop :=
  ∃ A c, v = .slice A l.length c ∧ l.length ≤ c ∧ ∀ (j : Nat) (r : List ByteArray), l[j]? = some r → ∃ b off u, A = some ⟨b, off, none⟩ ∧ w.cell? ⟨b, off + j, none⟩ = some u ∧ Strs w u r
theorem RowsT.reads {w : World} {base : Nat} {v : Value} {l : List (List ByteArray)} (h : RowsT w base v l) : StrRows w v l := by
  obtain ⟨cs, hcs, hown, _, hin⟩ := h
  rcases hown.2 with ⟨rfl, h0⟩ | ⟨g, cap, cur, rfl, _, hh, h1, h2, h3, h4⟩
  · obtain rfl : l = [] := List.eq_nil_of_length_eq_zero (by omega)
    exact ⟨none, 0, rfl, Nat.zero_le _, fun j r hj => by simp at hj⟩
  · refine ⟨_, cap, by rw [hcs], by omega, fun j r hj => ?_⟩
    have hlt : j < cs.length := by have := (List.getElem?_eq_some_iff.1 hj).1; omega
    have hc : cs[j]? = some cs[j] := List.getElem?_eq_getElem hlt
    exact ⟨g, 0, cs[j], rfl, by rw [Nat.zero_add, ← add_plain g j]; exact hown.cells (g := g) rfl j _ hc, (hin j _ r hc hj).reads⟩
theorem RowsT.grow {w w1 : World} {base : Nat} {v : Value} {l : List (List ByteArray)} (h : RowsT w base v l) (hb : Below w.heap.size w w1) : RowsT w1 base v l := by
  obtain ⟨cs, hcs, hown, h1, hin⟩ := h
  exact ⟨cs, hcs, pw_own_below hown hb, h1, fun j c r hc hr => (hin j c r hc hr).grow hb⟩
theorem StrRows.grow {w w1 : World} {v : Value} {l : List (List ByteArray)} (h : StrRows w v l) (hb : Below w.heap.size w w1) : StrRows w1 v l := by
  obtain ⟨A, c, hv, hc, h⟩ := h
  exact ⟨A, c, hv, hc, fun j r hj => let ⟨b, off, u, h1, h2, h3⟩ := h j r hj; ⟨b, off, u, h1, cell_below hb h2, h3.grow hb⟩⟩
theorem RowsT.nil (w : World) (base : Nat) : RowsT w base (.slice none 0 0) [] := ⟨[], rfl, World.ownsRow_nil _ _ _ _, by simp, fun j c r hc => by simp at hc⟩
theorem infoRow : (Tryd.prog.info? 51).map (fun i => (i.zero, i.size, i.bytes)) = some (some (.slice none 0 0), 1, 24) := by kernel_rfl
theorem infoStr : (Tryd.prog.info? 9).map (fun i => (i.zero, i.size, i.bytes)) = some (some (.string .empty), 1, 16) := by kernel_rfl
/-- What an append of a row to such a slice leaves. -/
theorem RowsT.app {w w1 : World} {base : Nat} {v v1 c : Value} {cs : List Value} {l : List (List ByteArray)} {r : List ByteArray} (hcs : cs.length = l.length) (h1 : ∀ c ∈ cs, c.oneCell' = true) (hin : ∀ (j : Nat) (c : Value) (r : List ByteArray), cs[j]? = some c → l[j]? = some r → StrsT w c r)
    (hown : w.ownsRow base 51 1 v cs.length cs) (hc : StrsT w c r) (hc1 : c.oneCell' = true) (ho : w1.ownsRow base 51 1 v1 (cs ++ [c]).length (cs ++ [c])) (hg : w.grownBy w1 v.ownBlock) : RowsT w1 base v1 (l ++ [r]) := by
  have hk : ∀ (k : Nat) (cs' : Array Value) (fr : Nat × Nat), w.heap[k]? = some (Obj.cells cs' 9 fr) → w1.heap[k]? = w.heap[k]? := fun k cs' fr hk => by
    refine hg.block k (blk_lt' hk) (fun e => ?_)
    obtain ⟨cells, hcell⟩ := own_typed hown k e.symm
    rw [hk] at hcell
    simp at hcell
  refine ⟨cs ++ [c], by simp [hcs], ho, fun u hu => ?_, fun j u x hu hx => ?_⟩
  · rcases List.mem_append.1 hu with hu | hu
    · exact h1 u hu
    · rw [List.mem_singleton.1 hu]; exact hc1
  · rcases Nat.lt_or_ge j cs.length with hj | hj
    · rw [List.getElem?_append_left hj] at hu
      rw [List.getElem?_append_left (by omega)] at hx
      exact (hin j u x hu hx).kept hk
    · have hj2 : j = cs.length := by
        have := (List.getElem?_eq_some_iff.1 hu).1
        simp at this; omega
      subst hj2
      rw [List.getElem?_append_right (Nat.le_refl _)] at hu
      rw [hcs, List.getElem?_append_right (Nat.le_refl _)] at hx
      simp at hu hx
      subst hu; subst hx
      exact hc.kept hk

/-! ### quote.rows -/
theorem World.iter_below (w : World) (s : ByteArray) (pos : Nat) : Below w.heap.size w (w.iter s pos) := below_new w _
theorem width_pos (s : ByteArray) (pos : Nat) (h : pos < s.size) : 1 ≤ (Utf8.decode s pos).2 := by
  by_cases ha : (s[pos]'h).toNat < 128
  · rw [decode_ascii s pos h ha]
    exact Nat.le_refl _
  · exact (decode_high s pos h (by omega)).2
theorem get_bang (s : ByteArray) (k : Nat) (h : k < s.size) : s.get! k = s[k] := by
  simp [ByteArray.get!, getElem!_pos, h]
  rfl
/-- What a rune beyond ASCII takes has no ASCII byte. -/
theorem decode_cont (s : ByteArray) (pos : Nat) (h : pos < s.size) (ha : 128 ≤ (s[pos]'h).toNat) : ∀ j, j < (Utf8.decode s pos).2 → ∃ h' : pos + j < s.size, 128 ≤ (s[pos + j]'h').toNat := by
  intro j hj
  rcases Nat.eq_zero_or_pos j with rfl | hj0
  · exact ⟨h, ha⟩
  have hc : ∀ k, (decide (pos + k < s.size) && (s.get! (pos + k)).toNat / 64 == 2) = true → ∃ h' : pos + k < s.size, 128 ≤ (s[pos + k]'h').toNat := fun k hk => by
    simp only [Bool.and_eq_true, decide_eq_true_eq, beq_iff_eq] at hk
    refine ⟨hk.1, ?_⟩
    have := hk.2
    rw [get_bang s _ hk.1] at this
    omega
  have hn : ¬ (s[pos]'h).toNat < 128 := by omega
  simp only [Utf8.decode, get_at s pos h, hn, if_false] at hj
  repeat' split at hj
  all_goals first
    | (exfalso; simp at hj; omega)
    | (rename_i h1 h2
       simp only [Bool.and_eq_true] at h1
       simp at hj
       have : j = 1 ∨ j = 2 ∨ j = 3 := by omega
       rcases this with rfl | rfl | rfl <;> first | omega | exact hc _ (by simp only [Bool.and_eq_true]; simp_all))

/-- One rune of a line. -/
theorem rune_step (s : ByteArray) (pos : Nat) (h : pos < s.size) (lb : Bool) :
    ((Utf8.decode s pos) = (32, 1) ∧ rowRun lb (s.data.toList.drop pos) = if lb = true then none else rowRun true (s.data.toList.drop (pos + 1)))
    ∨ ((Utf8.decode s pos).1 ≠ 32 ∧ rowRun lb (s.data.toList.drop pos) = rowRun false (s.data.toList.drop (pos + (Utf8.decode s pos).2))) := by
  have hd := drop_at s pos h
  by_cases h32 : s[pos] = 32
  · refine .inl ⟨?_, ?_⟩
    · rw [decode_ascii s pos h (by rw [h32]; decide), h32]; rfl
    · rw [hd, h32]; simp only [rowRun, if_true]
  · refine .inr ?_
    by_cases ha : (s[pos]).toNat < 128
    · rw [decode_ascii s pos h ha]
      refine ⟨fun e => h32 (UInt8.toNat_inj.1 (by simpa using e)), ?_⟩
      rw [hd]; simp only [rowRun, if_neg h32]
    · have hh := decode_high s pos h (by omega)
      refine ⟨by omega, ?_⟩
      rw [rowRun_skip lb (Utf8.decode s pos).2 (s.data.toList.drop pos) hh.2 (fun j hj => ?_), List.drop_drop]
      obtain ⟨h', hc⟩ := decode_cont s pos h (by omega) j hj
      refine ⟨s[pos + j], ?_, fun e => by rw [e] at hc; revert hc; decide⟩
      rw [List.getElem?_drop, List.getElem?_eq_getElem (by simpa using h')]
      rfl

def RowsPost (s : ByteArray) (w : World) (e : Ending) (w' : World) : Prop :=
  ∃ v b, e = .returned (.tuple #[v, .bool b]) ∧ Below w.heap.size w w' ∧ b = rightRow s.data.toList ∧ (b = true → StrsT w' v (texts (fields 32 s.data.toList)) ∧ v.oneCell' = true)
set_option maxRecDepth 100000 in
set_option maxHeartbeats 4000000 in
theorem rows_calls (s : ByteArray) (w : World) (hs : s.size ≤ 10000000) (m : Int) (hm : w.cell? ⟨21, 0, none⟩ = some (.int .i64 m)) :
    Calls Tryd.prog 66 #[.string s] w fun e w' => RowsPost s w e w' := by
  obtain ⟨R, hR⟩ : ∃ R, rowRun true s.data.toList = R := ⟨_, rfl⟩
  have HR := Lib.hid hR
  clear hR
  go_enter Tryd.func66, Tryd.ntmps66
  go_wp2
  go_loopw [4] (fun l wl => ∃ (pos : Nat) (lb : Bool) (c : Int), wl = w.iter s pos ∧ l = .int .i32 c ∧ (c == 32) = lb ∧ rowRun lb (s.data.toList.drop pos) = R) (fun _ wl => s.size - wl.iterPos w.heap.size)
  case atStart => exact ⟨0, true, 32, rfl, rfl, rfl, HR.out⟩
  case round =>
    obtain ⟨pos, lb, c, rfl, rfl, hc, hrun⟩ := hrel
    by_cases hp : pos < s.size
    · have hnx : ∀ ty, (Instr.next (.pointer (some ⟨w.heap.size, 0, none⟩)) true ty).run Tryd.prog (w.iter s pos) = _ := fun ty => run_next_any w s pos ty hp
      have hwd := width_pos s pos hp
      rcases rune_step s pos hp lb with ⟨hdec, hstep⟩ | ⟨hne, hstep⟩
      · rw [hdec] at hnx hwd
        rw [hrun] at hstep
        clear hdec
        cases lb with
        | true =>
          obtain rfl : c = 32 := by simpa using hc
          have hno : rightRow s.data.toList = false := by
            cases h : rightRow s.data.toList with
            | false => rfl
            | true => rw [rightRow_iff, HR.out, hstep] at h; cases h
          have HN := Lib.hid hno
          clear hno hstep hrun hc
          go_wp2
          go_ret2
          exact ⟨_, _, rfl, (World.iter_below w s (pos + 1)), HN.out.symm, fun h => by cases h⟩
        | false =>
          have HS := Lib.hid hstep
          clear hstep hrun
          go_wp2
          go_roundw
          case rel => exact ⟨pos + 1, true, 32, rfl, rfl, rfl, HS.out.symm⟩
          case measure => simp; omega
      · rw [hrun] at hstep
        generalize Utf8.decode s pos = d at hnx hwd hne hstep
        obtain ⟨r, wd⟩ := d
        have hr : ((r : Int) == 32) = false := by simp; omega
        have HS := Lib.hid hstep
        clear hstep hrun hne
        go_wp2
        go_roundw
        case rel => exact ⟨pos + wd, false, r, rfl, rfl, hr, HS.out.symm⟩
        case measure => simp; simp at hwd; omega
    · have hnx : ∀ ty, (Instr.next (.pointer (some ⟨w.heap.size, 0, none⟩)) true ty).run Tryd.prog (w.iter s pos) = _ := fun ty => run_next_end w s pos ty hp
      have hright : rightRow s.data.toList = !lb := by
        rw [List.drop_of_length_le (by simp; omega)] at hrun
        have h : rightRow s.data.toList = true ↔ lb = false := by rw [rightRow_iff, HR.out, ← hrun]; simp [rowRun]
        cases lb <;> cases hh : rightRow s.data.toList <;> simp_all
      have HRi := Lib.hid hright
      have HC := Lib.hid hc
      have HM := Lib.hid (cell_below (World.iter_below w s pos) hm)
      clear hright hrun hc hm
      go_wp2_with (go_at_call 98; refine (Tryd.strings_Split s ⟨#[32]⟩ m _ (by omega) HM.out (by decide)).mono ?_)
      rintro e w1 ⟨rfl, rfl⟩
      have hl := split_len 32 s
      have ht := split_texts 32 s
      rw [ht]
      have HT : Hid (StrsT ((w.iter s pos).alloc (.cells ((texts (fields 32 s.data.toList)).map Value.string).toArray 9)) (.slice (some ⟨(w.iter s pos).heap.size, 0, none⟩) (Lib.countB s ⟨#[32]⟩ + 1) (Lib.countB s ⟨#[32]⟩ + 1)) (texts (fields 32 s.data.toList))) := by
        have h := StrsT.new (w.iter s pos) (texts (fields 32 s.data.toList))
        rw [show (texts (fields 32 s.data.toList)).length = Lib.countB s ⟨#[32]⟩ + 1 by rw [hl]; simp [texts]] at h
        exact h
      clear hl ht
      go_wp2
      go_ret2
      refine ⟨_, _, rfl, below_trans (World.iter_below w s pos) (below_new _ _), ?_, fun _ => ⟨HT.out, rfl⟩⟩
      rw [HRi.out, ← HC.out]; rfl
end Go.Proofs.YtgjabbffpfhmjaaDoor
