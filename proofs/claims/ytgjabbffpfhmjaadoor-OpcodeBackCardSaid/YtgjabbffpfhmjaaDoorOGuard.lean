/- opcode's reader: guard, step, by their contracts. -/
import Derived.Test.YtgjabbffpfhmjaaDoorORead
import Derived.Test.YtgjabbffpfhmjaaDoorStepR
import Derived.Deep.AppendLies
import Derived.Deep.RegionLaw
namespace Go.Proofs.YtgjabbffpfhmjaaDoor
open Go.RowKit Go.Extern.Stop Go.Stop Go.Extern Go.Proofs.YtgjabbffpfhmjaaDoorW.PrintWords

def gcells (g : Grd) : List Value := [.int .i64 g.kind, .string g.key, .string g.val]
def scells (s : Stp) : List Value := [.int .i64 s.kind, .string s.key, .string s.val, .string s.old, .int .i64 s.n]
theorem gcells_one (g : Grd) : ∀ u ∈ gcells g, u.oneCell' = true := by
  intro u hu
  simp only [gcells, List.mem_cons, List.mem_nil_iff, or_false] at hu
  rcases hu with rfl | rfl | rfl <;> rfl
theorem scells_one (g : Stp) : ∀ u ∈ scells g, u.oneCell' = true := by
  intro u hu
  simp only [scells, List.mem_cons, List.mem_nil_iff, or_false] at hu
  rcases hu with rfl | rfl | rfl | rfl | rfl <;> rfl
theorem infoGrd : (Tryd.prog.info? 72).map (fun i => (i.zero, i.size, i.bytes)) = some (some (.agg #[.int .i64 0, .string ⟨#[]⟩, .string ⟨#[]⟩]), 3, 40) := by kernel_rfl
theorem infoStp : (Tryd.prog.info? 74).map (fun i => (i.zero, i.size, i.bytes)) = some (some (.agg #[.int .i64 0, .string ⟨#[]⟩, .string ⟨#[]⟩, .string ⟨#[]⟩, .int .i64 0]), 5, 64) := by kernel_rfl

def opBlk (gv sv : Value) : Obj := .cells #[gv, sv] 32 (0, 0)
/-- An operation that is being read. -/
structure OpAt (w : World) (B O : Nat) (gv sv : Value) (gs : List Grd) (ss : List Stp) : Prop where
  blk : w.heap[O]? = some (opBlk gv sv)
  grow : w.ownsRow B 72 3 gv gs.length (gs.flatMap gcells)
  srow : w.ownsRow B 74 5 sv ss.length (ss.flatMap scells)
theorem own_keeps {S : Nat → Prop} {w w1 : World} {base n size : Nat} {e : TypeId} {v : Value} {xs : List Value} (h : w.ownsRow base e size v n xs) (hk : Keeps S w w1) (hn : ∀ k, S k → ∃ cs t, w.heap[k]? = some (.cells cs t (0, 0)) ∧ t ≠ e) : w1.ownsRow base e size v n xs := by
  obtain ⟨h1, h2⟩ := h
  refine ⟨h1, ?_⟩
  rcases h2 with h2 | ⟨g, cap, cur, hv, hg, hh, r⟩
  · exact .inl h2
  · refine .inr ⟨g, cap, cur, hv, hg, blk_keeps hh hk (fun hS => ?_), r⟩
    obtain ⟨cs, t, hc, hne⟩ := hn g hS
    rw [hh] at hc
    injection hc with hc
    injection hc with _ ht
    exact hne ht.symm
/-- What the reader's own block leaves of it. -/
theorem OpAt.rd {sp : Nat → Addr} {w w1 : World} {B O R : Nat} {gv sv ev : Value} {gs : List Grd} {ss : List Stp} {s : ByteArray} {p : Int} (h : OpAt w B O gv sv gs ss) (hr : w.heap[R]? = some (rdBlk s p ev)) (hk : Keeps (· = R) w w1) : OpAt w1 B O gv sv gs ss := by
  refine ⟨blk_keeps h.blk hk (fun e => ?_), own_keeps h.grow hk (fun k e => by subst e; exact ⟨_, _, hr, by decide⟩), own_keeps h.srow hk (fun k e => by subst e; exact ⟨_, _, hr, by decide⟩)⟩
  have h1 := h.blk
  rw [e, hr] at h1
  unfold opBlk rdBlk at h1
  injection h1 with h1
  injection h1 with _ ht
  cases ht
theorem OpAt.below {w w1 : World} {B O : Nat} {gv sv : Value} {gs : List Grd} {ss : List Stp} (h : OpAt w B O gv sv gs ss) (hb : Below w.heap.size w w1) : OpAt w1 B O gv sv gs ss :=
  ⟨blk_below hb h.blk, pw_own_below h.grow hb, pw_own_below h.srow hb⟩

theorem RdAt.below {sp : Nat → Addr} {w w1 : World} {R : Nat} {s : ByteArray} {st : RSt} (h : RdAt sp w R s st) (hb : Below w.heap.size w w1) : RdAt sp w1 R s st :=
  let ⟨ev, h1, h2⟩ := h; ⟨ev, blk_below hb h1, h2.grow hb⟩
theorem RdAt.keeps {sp : Nat → Addr} {S : Nat → Prop} {w w1 : World} {R : Nat} {s : ByteArray} {st : RSt} (h : RdAt sp w R s st) (hk : Keeps S w w1)
    (hS : ∀ k, S k → ∃ cs t, w.heap[k]? = some (.cells cs t (0, 0)) ∧ t ≠ 139 ∧ t ≠ 144 ∧ t ≠ 82) : RdAt sp w1 R s st := by
  obtain ⟨ev, h1, h2⟩ := h
  refine ⟨ev, blk_keeps h1 hk (fun e => ?_), h2.keeps hk (fun k e cs t hc => ?_)⟩
  · obtain ⟨cs, t, hc, _, _, hn⟩ := hS R e
    rw [h1] at hc
    unfold rdBlk at hc
    injection hc with hc
    injection hc with _ ht
    exact hn ht.symm
  · obtain ⟨cs', t', hc', h1, h2, _⟩ := hS k e
    rw [hc] at hc'
    injection hc' with hc'
    injection hc' with _ ht
    subst ht
    exact ⟨h1, h2⟩
/-- A store into a block of another type. -/
theorem RdAt.set_ {sp : Nat → Addr} {w : World} {R G i : Nat} {s : ByteArray} {st : RSt} {cs : Array Value} {t : TypeId} {u : Value} (h : RdAt sp w R s st) (hG : w.heap[G]? = some (.cells cs t (0, 0))) (ht : t ≠ 139 ∧ t ≠ 144 ∧ t ≠ 82) :
    RdAt sp (w.setCell ⟨G, i, none⟩ u) R s st :=
  h.keeps (S := (· = G)) ((Keeps.refl _ _).setCell _ _ (fun _ => rfl)) (fun k e => by subst e; exact ⟨_, _, hG, ht⟩)
theorem own_cells {w : World} {base n size k : Nat} {e : TypeId} {v : Value} {xs : List Value} (h : w.ownsRow base e size v n xs) (hk : v.ownBlock = some k) : ∃ cur, w.heap[k]? = some (.cells cur e (0, 0)) := by
  rcases h.2 with ⟨rfl, _⟩ | ⟨g, cap, cur, rfl, _, hh, _⟩
  · simp [Value.ownBlock] at hk
  · simp [Value.ownBlock] at hk
    subst hk
    exact ⟨_, hh⟩
theorem grown_keeps {w w1 : World} {row : Option Nat} (h : w.grownBy w1 row) : Keeps (fun k => row = some k) w w1 := ⟨h.os, h.tape, h.output, h.size, fun k hk hn => h.block k hk (fun e => hn e.symm)⟩
theorem after_guard {sp : Nat → Addr} {W w w7 : World} {R O : Nat} {s : ByteArray} {st : RSt} {gv sv v1 : Value} {gs : List Grd} {ss : List Stp} {g : Grd} (hr : RdAt sp w R s st) (ho : OpAt w W.heap.size O gv sv gs ss) (hW : Below W.heap.size W w) (hO : W.heap.size ≤ O)
    (h1 : w7.ownsRow W.heap.size 72 3 v1 (gs.length + 1) (gs.flatMap gcells ++ gcells g)) (hg : w.grownBy w7 gv.ownBlock) :
    RdAt sp (w7.setCell ⟨O, 0, none⟩ v1) R s st ∧ OpAt (w7.setCell ⟨O, 0, none⟩ v1) W.heap.size O v1 sv (gs ++ [g]) ss ∧ Below W.heap.size W (w7.setCell ⟨O, 0, none⟩ v1) := by
  have hob : w7.heap[O]? = some (opBlk gv sv) := blk_grown ho.blk hg (own_ne ho.grow ho.blk (by decide))
  refine ⟨?_, ⟨blk_set hob 0 v1, ?_, ?_⟩, ?_⟩
  · refine (hr.keeps (grown_keeps hg) (fun k e => ?_)).set_ hob ⟨by decide, by decide, by decide⟩
    obtain ⟨cur, hc⟩ := own_cells ho.grow e
    exact ⟨_, _, hc, by decide, by decide, by decide⟩
  · have e1 : (gs ++ [g]).flatMap gcells = gs.flatMap gcells ++ gcells g := by simp
    rw [e1, List.length_append]
    exact own_setCell h1 (own_ne h1 hob (by decide)) _
  · have h2 := own_other ho.srow hg (own_type_ne ho.srow ho.grow (by decide))
    exact own_setCell h2 (own_ne h2 hob (by decide)) _
  · exact (hW.grown hg hW.size (fun k hk => (own_base ho.grow k hk))).setCell (p := ⟨O, 0, none⟩) hO _
theorem after_step {sp : Nat → Addr} {W w w7 : World} {R O : Nat} {s : ByteArray} {st : RSt} {gv sv v1 : Value} {gs : List Grd} {ss : List Stp} {g : Stp} (hr : RdAt sp w R s st) (ho : OpAt w W.heap.size O gv sv gs ss) (hW : Below W.heap.size W w) (hO : W.heap.size ≤ O)
    (h1 : w7.ownsRow W.heap.size 74 5 v1 (ss.length + 1) (ss.flatMap scells ++ scells g)) (hg : w.grownBy w7 sv.ownBlock) :
    RdAt sp (w7.setCell ⟨O, 1, none⟩ v1) R s st ∧ OpAt (w7.setCell ⟨O, 1, none⟩ v1) W.heap.size O gv v1 gs (ss ++ [g]) ∧ Below W.heap.size W (w7.setCell ⟨O, 1, none⟩ v1) := by
  have hob : w7.heap[O]? = some (opBlk gv sv) := blk_grown ho.blk hg (own_ne ho.srow ho.blk (by decide))
  refine ⟨?_, ⟨blk_set hob 1 v1, ?_, ?_⟩, ?_⟩
  · refine (hr.keeps (grown_keeps hg) (fun k e => ?_)).set_ hob ⟨by decide, by decide, by decide⟩
    obtain ⟨cur, hc⟩ := own_cells ho.srow e
    exact ⟨_, _, hc, by decide, by decide, by decide⟩
  · have h2 := own_other ho.grow hg (own_type_ne ho.grow ho.srow (by decide))
    exact own_setCell h2 (own_ne h2 hob (by decide)) _
  · have e1 : (ss ++ [g]).flatMap scells = ss.flatMap scells ++ scells g := by simp
    rw [e1, List.length_append]
    exact own_setCell h1 (own_ne h1 hob (by decide)) _
  · exact (hW.grown hg hW.size (fun k hk => (own_base ho.srow k hk))).setCell (p := ⟨O, 1, none⟩) hO _

def guardF (s : ByteArray) (st : RSt) : Grd × RSt :=
  if (kindF s 3 st).1 = 3 then
    (⟨3, (textF s 16 (kindF s 3 st).2).1, (textF s 32 (textF s 16 (kindF s 3 st).2).2).1⟩, (textF s 32 (textF s 16 (kindF s 3 st).2).2).2)
  else (⟨((kindF s 3 st).1 : Nat), (textF s 16 (kindF s 3 st).2).1, ⟨#[]⟩⟩, (textF s 16 (kindF s 3 st).2).2)

theorem count_ok {s : ByteArray} {most c : Nat} {st : RSt} (h : st.ok) (hs : s.size ≤ 10000000) : (countF s most c st).2.ok ∧ (countF s most c st).1 ≤ most := by
  obtain ⟨p, err⟩ := st
  unfold countF
  cases err with
  | some e => exact ⟨h, Nat.zero_le _⟩
  | none =>
    simp only
    cases hT : stake s p with
    | bad k => exact ⟨h, Nat.zero_le _⟩
    | ok n nx =>
      have := stake_next hT
      unfold countT
      simp only
      split
      · exact ⟨h, Nat.zero_le _⟩
      · exact ⟨⟨by simp only; omega, by simp only; omega⟩, by simp only; omega⟩
theorem kind_ok {s : ByteArray} {most : Nat} {st : RSt} (h : st.ok) (hs : s.size ≤ 10000000) : (kindF s most st).2.ok ∧ (kindF s most st).1 ≤ most := by
  have hc := count_ok (most := most) (c := 5) h hs
  unfold kindF
  split
  · split
    · exact ⟨hc.1, Nat.zero_le _⟩
    · exact hc
  · exact hc
theorem text_ok {s : ByteArray} {most : Nat} {st : RSt} (h : st.ok) (hs : s.size ≤ 10000000) : (textF s most st).2.ok ∧ (textF s most st).1.size ≤ most := by
  obtain ⟨p, err⟩ := st
  unfold textF
  cases err with
  | some e => exact ⟨h, Nat.zero_le _⟩
  | none =>
    simp only
    unfold stext_
    cases hT : stake s p with
    | bad k => exact ⟨h, Nat.zero_le _⟩
    | ok n nx =>
      have := stake_next hT
      simp only
      split
      · exact ⟨h, Nat.zero_le _⟩
      · split
        · exact ⟨h, Nat.zero_le _⟩
        · refine ⟨⟨by simp only [textT]; omega, by simp only [textT]; omega⟩, ?_⟩
          simp only [textT, ByteArray.size_extract]
          omega

def GPost (sp : Nat → Addr) (W : World) (R O : Nat) (s : ByteArray) (st : RSt) (gs : List Grd) (ss : List Stp) (e : Ending) (w' : World) : Prop :=
  e = .returned (.tuple #[]) ∧ RdAt sp w' R s st ∧ (∃ gv sv, OpAt w' W.heap.size O gv sv gs ss) ∧ Below W.heap.size W w'

set_option maxRecDepth 100000 in
set_option maxHeartbeats 8000000 in
theorem guard_calls {sp : Nat → Addr} (R O : Nat) (s : ByteArray) (st : RSt) (gs : List Grd) (ss : List Stp) (gv sv : Value) (W w : World) (hL : Laid sp W) (hW : Below W.heap.size W w) (hR : W.heap.size ≤ R) (hO : W.heap.size ≤ O) (hr : RdAt sp w R s st) (ho : OpAt w W.heap.size O gv sv gs ss)
    (hs : s.size ≤ 10000000) (hst : st.ok) (hg : gs.length ≤ 1000) :
    Calls Tryd.prog 50 #[.pointer (some ⟨R, 0, none⟩), .pointer (some ⟨O, 0, none⟩)] w fun e w' => GPost sp W R O s (guardF s st).2 (gs ++ [(guardF s st).1]) ss e w' := by
  have HK := Lib.hid (kind_calls R s st 3 W w hL hW hR hr hs hst (by omega))
  have hG : guardF s st = if (kindF s 3 st).1 = 3 then
    (⟨3, (textF s 16 (kindF s 3 st).2).1, (textF s 32 (textF s 16 (kindF s 3 st).2).2).1⟩, (textF s 32 (textF s 16 (kindF s 3 st).2).2).2)
    else (⟨((kindF s 3 st).1 : Nat), (textF s 16 (kindF s 3 st).2).1, ⟨#[]⟩⟩, (textF s 16 (kindF s 3 st).2).2) := rfl
  obtain ⟨ko, kl⟩ := kind_ok (most := 3) hst hs
  generalize guardF s st = G at hG ⊢
  generalize kindF s 3 st = r1 at *
  obtain ⟨k, st1⟩ := r1
  simp only at ko kl hG HK
  have HT1 := Lib.hid (fun w (hL : Laid sp w) hr => text_calls (sp := sp) R s st1 16 w hL hr hs ko (by omega))
  obtain ⟨to1, _⟩ := text_ok (most := 16) ko hs
  generalize textF s 16 st1 = r2 at *
  obtain ⟨key, st2⟩ := r2
  simp only at to1 hG HT1
  have HT2 := Lib.hid (fun w (hL : Laid sp w) hr => text_calls (sp := sp) R s st2 32 w hL hr hs to1 (by omega))
  generalize textF s 32 st2 = r3 at *
  obtain ⟨val, st3⟩ := r3
  simp only at hG HT2
  have HL := Lib.hid hL
  have HW := Lib.hid hW
  have HO := Lib.hid ho
  obtain ⟨ev, hb, _⟩ := hr
  have HRB := Lib.hid hb
  clear hL hW ho hb
  by_cases h3 : k = 3
  · subst h3
    rw [if_pos rfl] at hG
    subst hG
    go_enter Tryd.func50, Tryd.ntmps50
    go_wp2_with fail
    refine HK.out.mono ?_
    rintro e w1 ⟨rfl, hr1, hk1⟩
    have HO1 := Lib.hid (HO.out.rd (sp := sp) HRB.out hk1)
    have HW1 := Lib.hid (keeps_below HW.out hk1 (fun k e => by omega))
    have HR1 := Lib.hid hr1
    clear hr1 hk1
    have hRlt : R < w1.heap.size := let ⟨_, h, _⟩ := HR1.out; blk_lt' h
    go_wp2_with fail
    refine (HT1.out _ (HL.out.below (HW1.out.alloc HW1.out.size _)) (HR1.out.below (below_new _ _))).mono ?_
    rintro e w3 ⟨rfl, hr3, hk3⟩
    have hg3 : w3.heap[w1.heap.size]? = some (.cells #[.int .i64 (3 : Nat), .string ⟨#[]⟩, .string ⟨#[]⟩] 72 (0, 0)) := blk_keeps (heap_new w1 _) hk3 (fun e => by omega)
    have hk3' : Keeps (· = R) w1 w3 := (Keeps.of_below (below_new _ _)).trans hk3
    have HG3 := Lib.hid hg3
    have HK3 := Lib.hid hk3'
    have HR3 := Lib.hid hr3
    clear hk3 hk3' hr3
    have x3_0 : w3.cell? ⟨w1.heap.size, 0, none⟩ = some (.int .i64 (3 : Nat)) := blk_cell hg3 0
    have x3_1 : w3.cell? ⟨w1.heap.size, 1, none⟩ = some (.string ⟨#[]⟩) := blk_cell hg3 1
    have x3_2 : w3.cell? ⟨w1.heap.size, 2, none⟩ = some (.string ⟨#[]⟩) := blk_cell hg3 2
    have xf3_1 := blk_frozen hg3 1
    have xf3_2 := blk_frozen hg3 2
    have xf3_3 := blk_frozen hg3 3
    clear hg3
    go_wp2_with fail
    have hk4 : Keeps (· = R) w1 (w3.setCell ⟨w1.heap.size, 1, none⟩ (.string key)) := HK3.out.setCell _ _ (fun h => absurd h (Nat.lt_irrefl _))
    refine (HT2.out _ (HL.out.below (keeps_below HW1.out hk4 (fun k e => by omega))) (HR3.out.set_ HG3.out ⟨by decide, by decide, by decide⟩)).mono ?_
    rintro e w5 ⟨rfl, hr5, hk5⟩
    have hg5 : w5.heap[w1.heap.size]? = some (.cells #[.int .i64 (3 : Nat), .string key, .string ⟨#[]⟩] 72 (0, 0)) := blk_keeps (blk_set HG3.out 1 _) hk5 (fun e => by omega)
    have HG5 := Lib.hid hg5
    have HK5 := Lib.hid (hk4.trans hk5)
    have HR5 := Lib.hid hr5
    clear hk5 hk4 hr5
    have x5_0 : w5.cell? ⟨w1.heap.size, 0, none⟩ = some (.int .i64 (3 : Nat)) := blk_cell hg5 0
    have x5_1 : w5.cell? ⟨w1.heap.size, 1, none⟩ = some (.string key) := blk_cell hg5 1
    have x5_2 : w5.cell? ⟨w1.heap.size, 2, none⟩ = some (.string ⟨#[]⟩) := blk_cell hg5 2
    have xf5_1 := blk_frozen hg5 1
    have xf5_2 := blk_frozen hg5 2
    have xf5_3 := blk_frozen hg5 3
    clear hg5
    go_wp2_with fail
    have hk9 : Keeps (· = R) w1 (w5.setCell ⟨w1.heap.size, 2, none⟩ (.string val)) := HK5.out.setCell _ _ (fun h => absurd h (Nat.lt_irrefl _))
    have hg9 : (w5.setCell ⟨w1.heap.size, 2, none⟩ (.string val)).heap[w1.heap.size]? = some (.cells #[.int .i64 (3 : Nat), .string key, .string val] 72 (0, 0)) := blk_set HG5.out 2 _
    have hr9 := HR5.out.set_ (i := 2) (u := .string val) HG5.out ⟨by decide, by decide, by decide⟩
    obtain ⟨ev1, hrb⟩ : ∃ ev1, w1.heap[R]? = some (rdBlk s st1.at_ ev1) := let ⟨ev, h, _⟩ := HR1.out; ⟨ev, h⟩
    have ho9 := HO1.out.rd (sp := sp) hrb hk9
    have hw9 := keeps_below HW1.out hk9 (fun k e => by omega)
    clear hrb
    clear x5_0 x5_1 x5_2 xf5_1 xf5_2 xf5_3
    generalize w5.setCell ⟨w1.heap.size, 2, none⟩ (.string val) = w9 at *
    generalize w1.heap.size = G at *
    have o0 : w9.cell? ⟨O, 0, none⟩ = some gv := blk_cell ho9.blk 0
    have o1 : ∀ ob, (w9.alloc ob).cell? ⟨O, 0, none⟩ = some gv := fun ob => cell_below (below_new w9 ob) o0
    have d0 : w9.cell? ⟨G, 0, none⟩ = some (.int .i64 (3 : Nat)) := blk_cell hg9 0
    have d1 : w9.cell? ⟨G, 1, none⟩ = some (.string key) := blk_cell hg9 1
    have d2 : w9.cell? ⟨G, 2, none⟩ = some (.string val) := blk_cell hg9 2
    have HW9 : Hid (Below W.heap.size W w9.drew) := hw9.drew
    have HO9 : Hid (OpAt w9.drew W.heap.size O gv sv gs ss) := ⟨ho9.blk, ho9.grow, ho9.srow⟩
    have HR9 : Hid (RdAt sp w9.drew R s st3) := hr9.below ((Below.refl _ _).drew)
    have hbs : W.heap.size ≤ w9.drew.heap.size := hw9.size
    clear hk9 hg9 hr9 ho9 hw9
    obtain ⟨ca, cc, hgv⟩ : ∃ A c, gv = .slice A gs.length c := own_slice HO9.out.grow
    subst hgv
    go_region_law (refine step_append_cells (w0 := W) W.heap.size rfl (.tmp 21) (.tmp 23) 29 72 (.agg #[.int .i64 0, .string ⟨#[]⟩, .string ⟨#[]⟩]) 3 40 rfl Tryd.underlying29 infoGrd rfl (by decide) (by decide) _ gs.length (gs.flatMap gcells) (gcells ⟨3, key, val⟩) rfl rfl rfl (gcells_one _) HO9.out.grow HW9.out hbs (by omega) ?_; intro v1 w7 h1 hb7 hg7 ha7; have hob := blk_grown HO9.out.blk hg7 (own_ne HO9.out.grow HO9.out.blk (by decide)); have q0 := blk_cell hob 0; have qf := blk_frozen hob 0; obtain ⟨ca1, cc1, hv1⟩ := own_slice h1; subst hv1; have HFF := Lib.hid (after_guard HR9.out HO9.out HW9.out hO h1 hg7); clear h1 hb7 hg7 ha7 hob)
    all_goals
      go_wp2
      go_end0
      exact ⟨rfl, HFF.out.1, ⟨_, _, HFF.out.2.1⟩, HFF.out.2.2⟩
  · rw [if_neg h3] at hG
    subst hG
    have ht : ((k : Int) == 3) = false := by simp; omega
    go_enter Tryd.func50, Tryd.ntmps50
    go_wp2_with fail
    refine HK.out.mono ?_
    rintro e w1 ⟨rfl, hr1, hk1⟩
    have HO1 := Lib.hid (HO.out.rd (sp := sp) HRB.out hk1)
    have HW1 := Lib.hid (keeps_below HW.out hk1 (fun k e => by omega))
    have HR1 := Lib.hid hr1
    clear hr1 hk1
    have hRlt : R < w1.heap.size := let ⟨_, h, _⟩ := HR1.out; blk_lt' h
    go_wp2_with fail
    refine (HT1.out _ (HL.out.below (HW1.out.alloc HW1.out.size _)) (HR1.out.below (below_new _ _))).mono ?_
    rintro e w3 ⟨rfl, hr3, hk3⟩
    have hg3 : w3.heap[w1.heap.size]? = some (.cells #[.int .i64 (k : Nat), .string ⟨#[]⟩, .string ⟨#[]⟩] 72 (0, 0)) := blk_keeps (heap_new w1 _) hk3 (fun e => by omega)
    have hk3' : Keeps (· = R) w1 w3 := (Keeps.of_below (below_new _ _)).trans hk3
    have HG3 := Lib.hid hg3
    have HK3 := Lib.hid hk3'
    have HR3 := Lib.hid hr3
    clear hk3 hk3' hr3
    have x3_0 : w3.cell? ⟨w1.heap.size, 0, none⟩ = some (.int .i64 (k : Nat)) := blk_cell hg3 0
    have x3_1 : w3.cell? ⟨w1.heap.size, 1, none⟩ = some (.string ⟨#[]⟩) := blk_cell hg3 1
    have x3_2 : w3.cell? ⟨w1.heap.size, 2, none⟩ = some (.string ⟨#[]⟩) := blk_cell hg3 2
    have xf3_1 := blk_frozen hg3 1
    have xf3_2 := blk_frozen hg3 2
    have xf3_3 := blk_frozen hg3 3
    clear hg3
    clear h3
    go_wp2_with fail
    have hk9 : Keeps (· = R) w1 (w3.setCell ⟨w1.heap.size, 1, none⟩ (.string key)) := HK3.out.setCell _ _ (fun h => absurd h (Nat.lt_irrefl _))
    have hg9 : (w3.setCell ⟨w1.heap.size, 1, none⟩ (.string key)).heap[w1.heap.size]? = some (.cells #[.int .i64 (k : Nat), .string key, .string ⟨#[]⟩] 72 (0, 0)) := blk_set HG3.out 1 _
    have hr9 := HR3.out.set_ (i := 1) (u := .string key) HG3.out ⟨by decide, by decide, by decide⟩
    obtain ⟨ev1, hrb⟩ : ∃ ev1, w1.heap[R]? = some (rdBlk s st1.at_ ev1) := let ⟨ev, h, _⟩ := HR1.out; ⟨ev, h⟩
    have ho9 := HO1.out.rd (sp := sp) hrb hk9
    have hw9 := keeps_below HW1.out hk9 (fun k e => by omega)
    clear hrb
    clear x3_0 x3_1 x3_2 xf3_1 xf3_2 xf3_3
    generalize w3.setCell ⟨w1.heap.size, 1, none⟩ (.string key) = w9 at *
    generalize w1.heap.size = G at *
    have o0 : w9.cell? ⟨O, 0, none⟩ = some gv := blk_cell ho9.blk 0
    have o1 : ∀ ob, (w9.alloc ob).cell? ⟨O, 0, none⟩ = some gv := fun ob => cell_below (below_new w9 ob) o0
    have d0 : w9.cell? ⟨G, 0, none⟩ = some (.int .i64 (k : Nat)) := blk_cell hg9 0
    have d1 : w9.cell? ⟨G, 1, none⟩ = some (.string key) := blk_cell hg9 1
    have d2 : w9.cell? ⟨G, 2, none⟩ = some (.string ⟨#[]⟩) := blk_cell hg9 2
    have HW9 : Hid (Below W.heap.size W w9.drew) := hw9.drew
    have HO9 : Hid (OpAt w9.drew W.heap.size O gv sv gs ss) := ⟨ho9.blk, ho9.grow, ho9.srow⟩
    have HR9 : Hid (RdAt sp w9.drew R s st2) := hr9.below ((Below.refl _ _).drew)
    have hbs : W.heap.size ≤ w9.drew.heap.size := hw9.size
    clear hk9 hg9 hr9 ho9 hw9
    obtain ⟨ca, cc, hgv⟩ : ∃ A c, gv = .slice A gs.length c := own_slice HO9.out.grow
    subst hgv
    go_region_law (refine step_append_cells (w0 := W) W.heap.size rfl (.tmp 21) (.tmp 23) 29 72 (.agg #[.int .i64 0, .string ⟨#[]⟩, .string ⟨#[]⟩]) 3 40 rfl Tryd.underlying29 infoGrd rfl (by decide) (by decide) _ gs.length (gs.flatMap gcells) (gcells ⟨(k : Nat), key, ⟨#[]⟩⟩) rfl rfl rfl (gcells_one _) HO9.out.grow HW9.out hbs (by omega) ?_; intro v1 w7 h1 hb7 hg7 ha7; have hob := blk_grown HO9.out.blk hg7 (own_ne HO9.out.grow HO9.out.blk (by decide)); have q0 := blk_cell hob 0; have qf := blk_frozen hob 0; obtain ⟨ca1, cc1, hv1⟩ := own_slice h1; subst hv1; have HFF := Lib.hid (after_guard HR9.out HO9.out HW9.out hO h1 hg7); clear h1 hb7 hg7 ha7 hob)
    all_goals
      go_wp2
      go_end0
      exact ⟨rfl, HFF.out.1, ⟨_, _, HFF.out.2.1⟩, HFF.out.2.2⟩

def intF (s : ByteArray) (st : RSt) : Int × RSt :=
  match st.err with
  | some _ => (0, st)
  | none => match stake s st.at_ with
    | .bad c => (0, ⟨0, some (.at st.at_ (.sent c))⟩)
    | .ok n nx => (zag n, ⟨nx, none⟩)
def stepF (s : ByteArray) (st : RSt) : Stp × RSt :=
  if (kindF s 4 st).1 = 1 then (⟨1, (textF s 16 (kindF s 4 st).2).1, (textF s 32 (textF s 16 (kindF s 4 st).2).2).1, ⟨#[]⟩, 0⟩, (textF s 32 (textF s 16 (kindF s 4 st).2).2).2)
  else if (kindF s 4 st).1 = 3 then (⟨3, (textF s 16 (kindF s 4 st).2).1, ⟨#[]⟩, ⟨#[]⟩, (intF s (textF s 16 (kindF s 4 st).2).2).1⟩, (intF s (textF s 16 (kindF s 4 st).2).2).2)
  else if (kindF s 4 st).1 = 4 then (⟨4, (textF s 16 (kindF s 4 st).2).1, (textF s 32 (textF s 32 (textF s 16 (kindF s 4 st).2).2).2).1, (textF s 32 (textF s 16 (kindF s 4 st).2).2).1, 0⟩, (textF s 32 (textF s 32 (textF s 16 (kindF s 4 st).2).2).2).2)
  else (⟨((kindF s 4 st).1 : Nat), (textF s 16 (kindF s 4 st).2).1, ⟨#[]⟩, ⟨#[]⟩, 0⟩, (textF s 16 (kindF s 4 st).2).2)

set_option maxRecDepth 100000 in
set_option maxHeartbeats 8000000 in
theorem step_one {sp : Nat → Addr} (R O : Nat) (s : ByteArray) (st1 st2 st3 : RSt) (key val : ByteArray) (gs : List Grd) (ss : List Stp) (gv sv : Value) (W w : World) (hL : Laid sp W) (hW : Below W.heap.size W w) (hR : W.heap.size ≤ R) (hO : W.heap.size ≤ O) {st : RSt} (hr : RdAt sp w R s st) (ho : OpAt w W.heap.size O gv sv gs ss)
    (hs : s.size ≤ 10000000) (hg : ss.length ≤ 1000)
    (HK : Hid (Calls Tryd.prog 90 #[.pointer (some ⟨R, 0, none⟩), .int .i64 4] w fun e w' => RPost sp R s w (.int .i64 (1 : Nat)) st1 e w'))
    (HT1 : Hid (∀ w, Laid sp w → RdAt sp w R s st1 → Calls Tryd.prog 91 #[.pointer (some ⟨R, 0, none⟩), .int .i64 16] w fun e w' => RPost sp R s w (.string key) st2 e w'))
    (HT2 : Hid (∀ w, Laid sp w → RdAt sp w R s st2 → Calls Tryd.prog 91 #[.pointer (some ⟨R, 0, none⟩), .int .i64 32] w fun e w' => RPost sp R s w (.string val) st3 e w')) :
    Calls Tryd.prog 51 #[.pointer (some ⟨R, 0, none⟩), .pointer (some ⟨O, 0, none⟩)] w fun e w' => GPost sp W R O s st3 gs (ss ++ [⟨1, key, val, ⟨#[]⟩, 0⟩]) e w' := by
  have HL := Lib.hid hL
  have HW := Lib.hid hW
  have HO := Lib.hid ho
  obtain ⟨ev, hb, _⟩ := hr
  have HRB := Lib.hid hb
  clear hL hW ho hb
  go_enter Tryd.func51, Tryd.ntmps51
  go_wp2_with fail
  refine HK.out.mono ?_
  rintro e w1 ⟨rfl, hr1, hk1⟩
  have HO1 := Lib.hid (HO.out.rd (sp := sp) HRB.out hk1)
  have HW1 := Lib.hid (keeps_below HW.out hk1 (fun k e => by omega))
  have HR1 := Lib.hid hr1
  clear hr1 hk1
  have hRlt : R < w1.heap.size := let ⟨_, h, _⟩ := HR1.out; blk_lt' h
  go_wp2_with fail
  refine (HT1.out _ (HL.out.below (HW1.out.alloc HW1.out.size _)) (HR1.out.below (below_new _ _))).mono ?_
  rintro e w3 ⟨rfl, hr3, hk3⟩
  have hg3 : w3.heap[w1.heap.size]? = some (.cells #[.int .i64 (1 : Nat), .string ⟨#[]⟩, .string ⟨#[]⟩, .string ⟨#[]⟩, .int .i64 0] 74 (0, 0)) := blk_keeps (heap_new w1 _) hk3 (fun e => by omega)
  have hk3' : Keeps (· = R) w1 w3 := (Keeps.of_below (below_new _ _)).trans hk3
  have HG3 := Lib.hid hg3
  have HK3 := Lib.hid hk3'
  have HR3 := Lib.hid hr3
  clear hk3 hk3' hr3
  have x3_0 : w3.cell? ⟨w1.heap.size, 0, none⟩ = some (.int .i64 (1 : Nat)) := blk_cell hg3 0
  have x3_1 : w3.cell? ⟨w1.heap.size, 1, none⟩ = some (.string ⟨#[]⟩) := blk_cell hg3 1
  have x3_2 : w3.cell? ⟨w1.heap.size, 2, none⟩ = some (.string ⟨#[]⟩) := blk_cell hg3 2
  have x3_3 : w3.cell? ⟨w1.heap.size, 3, none⟩ = some (.string ⟨#[]⟩) := blk_cell hg3 3
  have x3_4 : w3.cell? ⟨w1.heap.size, 4, none⟩ = some (.int .i64 0) := blk_cell hg3 4
  have xf3_1 := blk_frozen hg3 1
  have xf3_2 := blk_frozen hg3 2
  have xf3_3 := blk_frozen hg3 3
  clear hg3
  go_wp2_with fail
  have hk4 : Keeps (· = R) w1 (w3.setCell ⟨w1.heap.size, 1, none⟩ (.string key)) := HK3.out.setCell _ _ (fun h => absurd h (Nat.lt_irrefl _))
  refine (HT2.out _ (HL.out.below (keeps_below HW1.out hk4 (fun k e => by omega))) (HR3.out.set_ HG3.out ⟨by decide, by decide, by decide⟩)).mono ?_
  rintro e w5 ⟨rfl, hr5, hk5⟩
  have hg5 : w5.heap[w1.heap.size]? = some (.cells #[.int .i64 (1 : Nat), .string key, .string ⟨#[]⟩, .string ⟨#[]⟩, .int .i64 0] 74 (0, 0)) := blk_keeps (blk_set HG3.out 1 _) hk5 (fun e => by omega)
  have HG5 := Lib.hid hg5
  have HK5 := Lib.hid (hk4.trans hk5)
  have HR5 := Lib.hid hr5
  clear hk5 hk4 hr5
  have x5_0 : w5.cell? ⟨w1.heap.size, 0, none⟩ = some (.int .i64 (1 : Nat)) := blk_cell hg5 0
  have x5_1 : w5.cell? ⟨w1.heap.size, 1, none⟩ = some (.string key) := blk_cell hg5 1
  have x5_2 : w5.cell? ⟨w1.heap.size, 2, none⟩ = some (.string ⟨#[]⟩) := blk_cell hg5 2
  have x5_3 : w5.cell? ⟨w1.heap.size, 3, none⟩ = some (.string ⟨#[]⟩) := blk_cell hg5 3
  have x5_4 : w5.cell? ⟨w1.heap.size, 4, none⟩ = some (.int .i64 0) := blk_cell hg5 4
  have xf5_1 := blk_frozen hg5 1
  have xf5_2 := blk_frozen hg5 2
  have xf5_3 := blk_frozen hg5 3
  clear hg5
  go_wp2_with fail
  have hk9 : Keeps (· = R) w1 (w5.setCell ⟨w1.heap.size, 2, none⟩ (.string val)) := HK5.out.setCell _ _ (fun h => absurd h (Nat.lt_irrefl _))
  have hg9 : (w5.setCell ⟨w1.heap.size, 2, none⟩ (.string val)).heap[w1.heap.size]? = some (.cells #[.int .i64 (1 : Nat), .string key, .string val, .string ⟨#[]⟩, .int .i64 0] 74 (0, 0)) := blk_set HG5.out 2 _
  have hr9 := HR5.out.set_ (i := 2) (u := .string val) HG5.out ⟨by decide, by decide, by decide⟩
  obtain ⟨ev1, hrb⟩ : ∃ ev1, w1.heap[R]? = some (rdBlk s st1.at_ ev1) := let ⟨ev, h, _⟩ := HR1.out; ⟨ev, h⟩
  have ho9 := HO1.out.rd (sp := sp) hrb hk9
  have hw9 := keeps_below HW1.out hk9 (fun k e => by omega)
  clear hrb
  clear x5_0 x5_1 x5_2 x5_3 x5_4 xf5_1 xf5_2 xf5_3
  generalize w5.setCell ⟨w1.heap.size, 2, none⟩ (.string val) = w9 at *
  generalize w1.heap.size = G at *
  have o0 : w9.cell? ⟨O, 1, none⟩ = some sv := blk_cell ho9.blk 1
  have o1 : ∀ ob, (w9.alloc ob).cell? ⟨O, 1, none⟩ = some sv := fun ob => cell_below (below_new w9 ob) o0
  have d0 : w9.cell? ⟨G, 0, none⟩ = some (.int .i64 (1 : Nat)) := blk_cell hg9 0
  have d1 : w9.cell? ⟨G, 1, none⟩ = some (.string key) := blk_cell hg9 1
  have d2 : w9.cell? ⟨G, 2, none⟩ = some (.string val) := blk_cell hg9 2
  have d3 : w9.cell? ⟨G, 3, none⟩ = some (.string ⟨#[]⟩) := blk_cell hg9 3
  have d4 : w9.cell? ⟨G, 4, none⟩ = some (.int .i64 0) := blk_cell hg9 4
  have HW9 : Hid (Below W.heap.size W w9.drew) := hw9.drew
  have HO9 : Hid (OpAt w9.drew W.heap.size O gv sv gs ss) := ⟨ho9.blk, ho9.grow, ho9.srow⟩
  have HR9 : Hid (RdAt sp w9.drew R s st3) := hr9.below ((Below.refl _ _).drew)
  have hbs : W.heap.size ≤ w9.drew.heap.size := hw9.size
  clear hk9 hg9 hr9 ho9 hw9
  obtain ⟨ca, cc, hgv⟩ : ∃ A c, sv = .slice A ss.length c := own_slice HO9.out.srow
  subst hgv
  go_region_law (refine step_append_cells (w0 := W) W.heap.size rfl (.tmp 57) (.tmp 59) 30 74 (.agg #[.int .i64 0, .string ⟨#[]⟩, .string ⟨#[]⟩, .string ⟨#[]⟩, .int .i64 0]) 5 64 rfl Tryd.underlying30 infoStp rfl (by decide) (by decide) _ ss.length (ss.flatMap scells) (scells ⟨1, key, val, ⟨#[]⟩, 0⟩) rfl rfl rfl (scells_one _) HO9.out.srow HW9.out hbs (by omega) ?_; intro v1 w7 h1 hb7 hg7 ha7; have hob := blk_grown HO9.out.blk hg7 (own_ne HO9.out.srow HO9.out.blk (by decide)); have q0 := blk_cell hob 1; have qf := blk_frozen hob 1; obtain ⟨ca1, cc1, hv1⟩ := own_slice h1; subst hv1; have HFF := Lib.hid (after_step HR9.out HO9.out HW9.out hO h1 hg7); clear h1 hb7 hg7 ha7 hob)
  all_goals
    go_wp2
    go_end0
    exact ⟨rfl, HFF.out.1, ⟨_, _, HFF.out.2.1⟩, HFF.out.2.2⟩
set_option maxRecDepth 100000 in
set_option maxHeartbeats 8000000 in
theorem step_four {sp : Nat → Addr} (R O : Nat) (s : ByteArray) (st1 st2 st3 st4 : RSt) (key val old : ByteArray) (gs : List Grd) (ss : List Stp) (gv sv : Value) (W w : World) (hL : Laid sp W) (hW : Below W.heap.size W w) (hR : W.heap.size ≤ R) (hO : W.heap.size ≤ O) {st : RSt} (hr : RdAt sp w R s st) (ho : OpAt w W.heap.size O gv sv gs ss)
    (hs : s.size ≤ 10000000) (hg : ss.length ≤ 1000)
    (HK : Hid (Calls Tryd.prog 90 #[.pointer (some ⟨R, 0, none⟩), .int .i64 4] w fun e w' => RPost sp R s w (.int .i64 (4 : Nat)) st1 e w'))
    (HT1 : Hid (∀ w, Laid sp w → RdAt sp w R s st1 → Calls Tryd.prog 91 #[.pointer (some ⟨R, 0, none⟩), .int .i64 16] w fun e w' => RPost sp R s w (.string key) st2 e w'))
    (HT2 : Hid (∀ w, Laid sp w → RdAt sp w R s st2 → Calls Tryd.prog 91 #[.pointer (some ⟨R, 0, none⟩), .int .i64 32] w fun e w' => RPost sp R s w (.string old) st3 e w'))
    (HT3 : Hid (∀ w, Laid sp w → RdAt sp w R s st3 → Calls Tryd.prog 91 #[.pointer (some ⟨R, 0, none⟩), .int .i64 32] w fun e w' => RPost sp R s w (.string val) st4 e w')) :
    Calls Tryd.prog 51 #[.pointer (some ⟨R, 0, none⟩), .pointer (some ⟨O, 0, none⟩)] w fun e w' => GPost sp W R O s st4 gs (ss ++ [⟨4, key, val, old, 0⟩]) e w' := by
  have HL := Lib.hid hL
  have HW := Lib.hid hW
  have HO := Lib.hid ho
  obtain ⟨ev, hb, _⟩ := hr
  have HRB := Lib.hid hb
  clear hL hW ho hb
  go_enter Tryd.func51, Tryd.ntmps51
  go_wp2_with fail
  refine HK.out.mono ?_
  rintro e w1 ⟨rfl, hr1, hk1⟩
  have HO1 := Lib.hid (HO.out.rd (sp := sp) HRB.out hk1)
  have HW1 := Lib.hid (keeps_below HW.out hk1 (fun k e => by omega))
  have HR1 := Lib.hid hr1
  clear hr1 hk1
  have hRlt : R < w1.heap.size := let ⟨_, h, _⟩ := HR1.out; blk_lt' h
  go_wp2_with fail
  refine (HT1.out _ (HL.out.below (HW1.out.alloc HW1.out.size _)) (HR1.out.below (below_new _ _))).mono ?_
  rintro e w3 ⟨rfl, hr3, hk3⟩
  have hg3 : w3.heap[w1.heap.size]? = some (.cells #[.int .i64 (4 : Nat), .string ⟨#[]⟩, .string ⟨#[]⟩, .string ⟨#[]⟩, .int .i64 0] 74 (0, 0)) := blk_keeps (heap_new w1 _) hk3 (fun e => by omega)
  have hk3' : Keeps (· = R) w1 w3 := (Keeps.of_below (below_new _ _)).trans hk3
  have HG3 := Lib.hid hg3
  have HK3 := Lib.hid hk3'
  have HR3 := Lib.hid hr3
  clear hk3 hk3' hr3
  have x3_0 : w3.cell? ⟨w1.heap.size, 0, none⟩ = some (.int .i64 (4 : Nat)) := blk_cell hg3 0
  have x3_1 : w3.cell? ⟨w1.heap.size, 1, none⟩ = some (.string ⟨#[]⟩) := blk_cell hg3 1
  have x3_2 : w3.cell? ⟨w1.heap.size, 2, none⟩ = some (.string ⟨#[]⟩) := blk_cell hg3 2
  have x3_3 : w3.cell? ⟨w1.heap.size, 3, none⟩ = some (.string ⟨#[]⟩) := blk_cell hg3 3
  have x3_4 : w3.cell? ⟨w1.heap.size, 4, none⟩ = some (.int .i64 0) := blk_cell hg3 4
  have xf3_1 := blk_frozen hg3 1
  have xf3_2 := blk_frozen hg3 2
  have xf3_3 := blk_frozen hg3 3
  clear hg3
  go_wp2_with fail
  have hk4 : Keeps (· = R) w1 (w3.setCell ⟨w1.heap.size, 1, none⟩ (.string key)) := HK3.out.setCell _ _ (fun h => absurd h (Nat.lt_irrefl _))
  refine (HT2.out _ (HL.out.below (keeps_below HW1.out hk4 (fun k e => by omega))) (HR3.out.set_ HG3.out ⟨by decide, by decide, by decide⟩)).mono ?_
  rintro e w5 ⟨rfl, hr5, hk5⟩
  have hg5 : w5.heap[w1.heap.size]? = some (.cells #[.int .i64 (4 : Nat), .string key, .string ⟨#[]⟩, .string ⟨#[]⟩, .int .i64 0] 74 (0, 0)) := blk_keeps (blk_set HG3.out 1 _) hk5 (fun e => by omega)
  have HG5 := Lib.hid hg5
  have HK5 := Lib.hid (hk4.trans hk5)
  have HR5 := Lib.hid hr5
  clear hk5 hk4 hr5
  have x5_0 : w5.cell? ⟨w1.heap.size, 0, none⟩ = some (.int .i64 (4 : Nat)) := blk_cell hg5 0
  have x5_1 : w5.cell? ⟨w1.heap.size, 1, none⟩ = some (.string key) := blk_cell hg5 1
  have x5_2 : w5.cell? ⟨w1.heap.size, 2, none⟩ = some (.string ⟨#[]⟩) := blk_cell hg5 2
  have x5_3 : w5.cell? ⟨w1.heap.size, 3, none⟩ = some (.string ⟨#[]⟩) := blk_cell hg5 3
  have x5_4 : w5.cell? ⟨w1.heap.size, 4, none⟩ = some (.int .i64 0) := blk_cell hg5 4
  have xf5_1 := blk_frozen hg5 1
  have xf5_2 := blk_frozen hg5 2
  have xf5_3 := blk_frozen hg5 3
  clear hg5
  go_wp2_with fail
  have hk6 : Keeps (· = R) w1 (w5.setCell ⟨w1.heap.size, 3, none⟩ (.string old)) := HK5.out.setCell _ _ (fun h => absurd h (Nat.lt_irrefl _))
  refine (HT3.out _ (HL.out.below (keeps_below HW1.out hk6 (fun k e => by omega))) (HR5.out.set_ HG5.out ⟨by decide, by decide, by decide⟩)).mono ?_
  rintro e w7 ⟨rfl, hr7, hk7⟩
  have hg7 : w7.heap[w1.heap.size]? = some (.cells #[.int .i64 (4 : Nat), .string key, .string ⟨#[]⟩, .string old, .int .i64 0] 74 (0, 0)) := blk_keeps (blk_set HG5.out 3 _) hk7 (fun e => by omega)
  have HG7 := Lib.hid hg7
  have HK7 := Lib.hid (hk6.trans hk7)
  have HR7 := Lib.hid hr7
  clear hk7 hk6 hr7
  have x7_0 : w7.cell? ⟨w1.heap.size, 0, none⟩ = some (.int .i64 (4 : Nat)) := blk_cell hg7 0
  have x7_1 : w7.cell? ⟨w1.heap.size, 1, none⟩ = some (.string key) := blk_cell hg7 1
  have x7_2 : w7.cell? ⟨w1.heap.size, 2, none⟩ = some (.string ⟨#[]⟩) := blk_cell hg7 2
  have x7_3 : w7.cell? ⟨w1.heap.size, 3, none⟩ = some (.string old) := blk_cell hg7 3
  have x7_4 : w7.cell? ⟨w1.heap.size, 4, none⟩ = some (.int .i64 0) := blk_cell hg7 4
  have xf7_1 := blk_frozen hg7 1
  have xf7_2 := blk_frozen hg7 2
  have xf7_3 := blk_frozen hg7 3
  clear hg7
  go_wp2_with fail
  have hk9 : Keeps (· = R) w1 (w7.setCell ⟨w1.heap.size, 2, none⟩ (.string val)) := HK7.out.setCell _ _ (fun h => absurd h (Nat.lt_irrefl _))
  have hg9 : (w7.setCell ⟨w1.heap.size, 2, none⟩ (.string val)).heap[w1.heap.size]? = some (.cells #[.int .i64 (4 : Nat), .string key, .string val, .string old, .int .i64 0] 74 (0, 0)) := blk_set HG7.out 2 _
  have hr9 := HR7.out.set_ (i := 2) (u := .string val) HG7.out ⟨by decide, by decide, by decide⟩
  obtain ⟨ev1, hrb⟩ : ∃ ev1, w1.heap[R]? = some (rdBlk s st1.at_ ev1) := let ⟨ev, h, _⟩ := HR1.out; ⟨ev, h⟩
  have ho9 := HO1.out.rd (sp := sp) hrb hk9
  have hw9 := keeps_below HW1.out hk9 (fun k e => by omega)
  clear hrb
  clear x7_0 x7_1 x7_2 x7_3 x7_4 xf7_1 xf7_2 xf7_3
  generalize w7.setCell ⟨w1.heap.size, 2, none⟩ (.string val) = w9 at *
  generalize w1.heap.size = G at *
  have o0 : w9.cell? ⟨O, 1, none⟩ = some sv := blk_cell ho9.blk 1
  have o1 : ∀ ob, (w9.alloc ob).cell? ⟨O, 1, none⟩ = some sv := fun ob => cell_below (below_new w9 ob) o0
  have d0 : w9.cell? ⟨G, 0, none⟩ = some (.int .i64 (4 : Nat)) := blk_cell hg9 0
  have d1 : w9.cell? ⟨G, 1, none⟩ = some (.string key) := blk_cell hg9 1
  have d2 : w9.cell? ⟨G, 2, none⟩ = some (.string val) := blk_cell hg9 2
  have d3 : w9.cell? ⟨G, 3, none⟩ = some (.string old) := blk_cell hg9 3
  have d4 : w9.cell? ⟨G, 4, none⟩ = some (.int .i64 0) := blk_cell hg9 4
  have HW9 : Hid (Below W.heap.size W w9.drew) := hw9.drew
  have HO9 : Hid (OpAt w9.drew W.heap.size O gv sv gs ss) := ⟨ho9.blk, ho9.grow, ho9.srow⟩
  have HR9 : Hid (RdAt sp w9.drew R s st4) := hr9.below ((Below.refl _ _).drew)
  have hbs : W.heap.size ≤ w9.drew.heap.size := hw9.size
  clear hk9 hg9 hr9 ho9 hw9
  obtain ⟨ca, cc, hgv⟩ : ∃ A c, sv = .slice A ss.length c := own_slice HO9.out.srow
  subst hgv
  go_region_law (refine step_append_cells (w0 := W) W.heap.size rfl (.tmp 57) (.tmp 59) 30 74 (.agg #[.int .i64 0, .string ⟨#[]⟩, .string ⟨#[]⟩, .string ⟨#[]⟩, .int .i64 0]) 5 64 rfl Tryd.underlying30 infoStp rfl (by decide) (by decide) _ ss.length (ss.flatMap scells) (scells ⟨4, key, val, old, 0⟩) rfl rfl rfl (scells_one _) HO9.out.srow HW9.out hbs (by omega) ?_; intro v1 w7 h1 hb7 hg7 ha7; have hob := blk_grown HO9.out.blk hg7 (own_ne HO9.out.srow HO9.out.blk (by decide)); have q0 := blk_cell hob 1; have qf := blk_frozen hob 1; obtain ⟨ca1, cc1, hv1⟩ := own_slice h1; subst hv1; have HFF := Lib.hid (after_step HR9.out HO9.out HW9.out hO h1 hg7); clear h1 hb7 hg7 ha7 hob)
  all_goals
    go_wp2
    go_end0
    exact ⟨rfl, HFF.out.1, ⟨_, _, HFF.out.2.1⟩, HFF.out.2.2⟩
set_option maxRecDepth 100000 in
set_option maxHeartbeats 8000000 in
theorem step_other {sp : Nat → Addr} (R O : Nat) (s : ByteArray) (st1 st2 : RSt) (key : ByteArray) (k : Nat) (k1 : ¬ k = 1) (k3 : ¬ k = 3) (k4 : ¬ k = 4) (gs : List Grd) (ss : List Stp) (gv sv : Value) (W w : World) (hL : Laid sp W) (hW : Below W.heap.size W w) (hR : W.heap.size ≤ R) (hO : W.heap.size ≤ O) {st : RSt} (hr : RdAt sp w R s st) (ho : OpAt w W.heap.size O gv sv gs ss)
    (hs : s.size ≤ 10000000) (hg : ss.length ≤ 1000)
    (HK : Hid (Calls Tryd.prog 90 #[.pointer (some ⟨R, 0, none⟩), .int .i64 4] w fun e w' => RPost sp R s w (.int .i64 (k : Nat)) st1 e w'))
    (HT1 : Hid (∀ w, Laid sp w → RdAt sp w R s st1 → Calls Tryd.prog 91 #[.pointer (some ⟨R, 0, none⟩), .int .i64 16] w fun e w' => RPost sp R s w (.string key) st2 e w')) :
    Calls Tryd.prog 51 #[.pointer (some ⟨R, 0, none⟩), .pointer (some ⟨O, 0, none⟩)] w fun e w' => GPost sp W R O s st2 gs (ss ++ [⟨(k : Nat), key, ⟨#[]⟩, ⟨#[]⟩, 0⟩]) e w' := by
  have HL := Lib.hid hL
  have HW := Lib.hid hW
  have HO := Lib.hid ho
  obtain ⟨ev, hb, _⟩ := hr
  have HRB := Lib.hid hb
  clear hL hW ho hb
  have t1 : ((k : Int) == 1) = false := by simp; omega
  have t3 : ((k : Int) == 3) = false := by simp; omega
  have t4 : ((k : Int) == 4) = false := by simp; omega
  clear k1 k3 k4
  go_enter Tryd.func51, Tryd.ntmps51
  go_wp2_with fail
  refine HK.out.mono ?_
  rintro e w1 ⟨rfl, hr1, hk1⟩
  have HO1 := Lib.hid (HO.out.rd (sp := sp) HRB.out hk1)
  have HW1 := Lib.hid (keeps_below HW.out hk1 (fun k e => by omega))
  have HR1 := Lib.hid hr1
  clear hr1 hk1
  have hRlt : R < w1.heap.size := let ⟨_, h, _⟩ := HR1.out; blk_lt' h
  go_wp2_with fail
  refine (HT1.out _ (HL.out.below (HW1.out.alloc HW1.out.size _)) (HR1.out.below (below_new _ _))).mono ?_
  rintro e w3 ⟨rfl, hr3, hk3⟩
  have hg3 : w3.heap[w1.heap.size]? = some (.cells #[.int .i64 (k : Nat), .string ⟨#[]⟩, .string ⟨#[]⟩, .string ⟨#[]⟩, .int .i64 0] 74 (0, 0)) := blk_keeps (heap_new w1 _) hk3 (fun e => by omega)
  have hk3' : Keeps (· = R) w1 w3 := (Keeps.of_below (below_new _ _)).trans hk3
  have HG3 := Lib.hid hg3
  have HK3 := Lib.hid hk3'
  have HR3 := Lib.hid hr3
  clear hk3 hk3' hr3
  have x3_0 : w3.cell? ⟨w1.heap.size, 0, none⟩ = some (.int .i64 (k : Nat)) := blk_cell hg3 0
  have x3_1 : w3.cell? ⟨w1.heap.size, 1, none⟩ = some (.string ⟨#[]⟩) := blk_cell hg3 1
  have x3_2 : w3.cell? ⟨w1.heap.size, 2, none⟩ = some (.string ⟨#[]⟩) := blk_cell hg3 2
  have x3_3 : w3.cell? ⟨w1.heap.size, 3, none⟩ = some (.string ⟨#[]⟩) := blk_cell hg3 3
  have x3_4 : w3.cell? ⟨w1.heap.size, 4, none⟩ = some (.int .i64 0) := blk_cell hg3 4
  have xf3_1 := blk_frozen hg3 1
  have xf3_2 := blk_frozen hg3 2
  have xf3_3 := blk_frozen hg3 3
  clear hg3
  go_wp2_with fail
  have hk9 : Keeps (· = R) w1 (w3.setCell ⟨w1.heap.size, 1, none⟩ (.string key)) := HK3.out.setCell _ _ (fun h => absurd h (Nat.lt_irrefl _))
  have hg9 : (w3.setCell ⟨w1.heap.size, 1, none⟩ (.string key)).heap[w1.heap.size]? = some (.cells #[.int .i64 (k : Nat), .string key, .string ⟨#[]⟩, .string ⟨#[]⟩, .int .i64 0] 74 (0, 0)) := blk_set HG3.out 1 _
  have hr9 := HR3.out.set_ (i := 1) (u := .string key) HG3.out ⟨by decide, by decide, by decide⟩
  obtain ⟨ev1, hrb⟩ : ∃ ev1, w1.heap[R]? = some (rdBlk s st1.at_ ev1) := let ⟨ev, h, _⟩ := HR1.out; ⟨ev, h⟩
  have ho9 := HO1.out.rd (sp := sp) hrb hk9
  have hw9 := keeps_below HW1.out hk9 (fun k e => by omega)
  clear hrb
  clear x3_0 x3_1 x3_2 x3_3 x3_4 xf3_1 xf3_2 xf3_3
  generalize w3.setCell ⟨w1.heap.size, 1, none⟩ (.string key) = w9 at *
  generalize w1.heap.size = G at *
  have o0 : w9.cell? ⟨O, 1, none⟩ = some sv := blk_cell ho9.blk 1
  have o1 : ∀ ob, (w9.alloc ob).cell? ⟨O, 1, none⟩ = some sv := fun ob => cell_below (below_new w9 ob) o0
  have d0 : w9.cell? ⟨G, 0, none⟩ = some (.int .i64 (k : Nat)) := blk_cell hg9 0
  have d1 : w9.cell? ⟨G, 1, none⟩ = some (.string key) := blk_cell hg9 1
  have d2 : w9.cell? ⟨G, 2, none⟩ = some (.string ⟨#[]⟩) := blk_cell hg9 2
  have d3 : w9.cell? ⟨G, 3, none⟩ = some (.string ⟨#[]⟩) := blk_cell hg9 3
  have d4 : w9.cell? ⟨G, 4, none⟩ = some (.int .i64 0) := blk_cell hg9 4
  have HW9 : Hid (Below W.heap.size W w9.drew) := hw9.drew
  have HO9 : Hid (OpAt w9.drew W.heap.size O gv sv gs ss) := ⟨ho9.blk, ho9.grow, ho9.srow⟩
  have HR9 : Hid (RdAt sp w9.drew R s st2) := hr9.below ((Below.refl _ _).drew)
  have hbs : W.heap.size ≤ w9.drew.heap.size := hw9.size
  clear hk9 hg9 hr9 ho9 hw9
  obtain ⟨ca, cc, hgv⟩ : ∃ A c, sv = .slice A ss.length c := own_slice HO9.out.srow
  subst hgv
  go_region_law (refine step_append_cells (w0 := W) W.heap.size rfl (.tmp 57) (.tmp 59) 30 74 (.agg #[.int .i64 0, .string ⟨#[]⟩, .string ⟨#[]⟩, .string ⟨#[]⟩, .int .i64 0]) 5 64 rfl Tryd.underlying30 infoStp rfl (by decide) (by decide) _ ss.length (ss.flatMap scells) (scells ⟨(k : Nat), key, ⟨#[]⟩, ⟨#[]⟩, 0⟩) rfl rfl rfl (scells_one _) HO9.out.srow HW9.out hbs (by omega) ?_; intro v1 w7 h1 hb7 hg7 ha7; have hob := blk_grown HO9.out.blk hg7 (own_ne HO9.out.srow HO9.out.blk (by decide)); have q0 := blk_cell hob 1; have qf := blk_frozen hob 1; obtain ⟨ca1, cc1, hv1⟩ := own_slice h1; subst hv1; have HFF := Lib.hid (after_step HR9.out HO9.out HW9.out hO h1 hg7); clear h1 hb7 hg7 ha7 hob)
  all_goals
    go_wp2
    go_end0
    exact ⟨rfl, HFF.out.1, ⟨_, _, HFF.out.2.1⟩, HFF.out.2.2⟩
set_option maxRecDepth 100000 in
set_option maxHeartbeats 8000000 in
theorem step_threeE {sp : Nat → Addr} (R O : Nat) (s : ByteArray) (st1 st2 : RSt) (key : ByteArray) (er : Er) (hE : st2.err = some er) (gs : List Grd) (ss : List Stp) (gv sv : Value) (W w : World) (hL : Laid sp W) (hW : Below W.heap.size W w) (hR : W.heap.size ≤ R) (hO : W.heap.size ≤ O) {st : RSt} (hr : RdAt sp w R s st) (ho : OpAt w W.heap.size O gv sv gs ss)
    (hs : s.size ≤ 10000000) (hg : ss.length ≤ 1000)
    (HK : Hid (Calls Tryd.prog 90 #[.pointer (some ⟨R, 0, none⟩), .int .i64 4] w fun e w' => RPost sp R s w (.int .i64 (3 : Nat)) st1 e w'))
    (HT1 : Hid (∀ w, Laid sp w → RdAt sp w R s st1 → Calls Tryd.prog 91 #[.pointer (some ⟨R, 0, none⟩), .int .i64 16] w fun e w' => RPost sp R s w (.string key) st2 e w')) :
    Calls Tryd.prog 51 #[.pointer (some ⟨R, 0, none⟩), .pointer (some ⟨O, 0, none⟩)] w fun e w' => GPost sp W R O s st2 gs (ss ++ [⟨3, key, ⟨#[]⟩, ⟨#[]⟩, 0⟩]) e w' := by
  have HL := Lib.hid hL
  have HW := Lib.hid hW
  have HO := Lib.hid ho
  obtain ⟨ev, hb, _⟩ := hr
  have HRB := Lib.hid hb
  clear hL hW ho hb
  go_enter Tryd.func51, Tryd.ntmps51
  go_wp2_with fail
  refine HK.out.mono ?_
  rintro e w1 ⟨rfl, hr1, hk1⟩
  have HO1 := Lib.hid (HO.out.rd (sp := sp) HRB.out hk1)
  have HW1 := Lib.hid (keeps_below HW.out hk1 (fun k e => by omega))
  have HR1 := Lib.hid hr1
  clear hr1 hk1
  have hRlt : R < w1.heap.size := let ⟨_, h, _⟩ := HR1.out; blk_lt' h
  go_wp2_with fail
  refine (HT1.out _ (HL.out.below (HW1.out.alloc HW1.out.size _)) (HR1.out.below (below_new _ _))).mono ?_
  rintro e w3 ⟨rfl, hr3, hk3⟩
  have hg3 : w3.heap[w1.heap.size]? = some (.cells #[.int .i64 (3 : Nat), .string ⟨#[]⟩, .string ⟨#[]⟩, .string ⟨#[]⟩, .int .i64 0] 74 (0, 0)) := blk_keeps (heap_new w1 _) hk3 (fun e => by omega)
  have hk3' : Keeps (· = R) w1 w3 := (Keeps.of_below (below_new _ _)).trans hk3
  have HG3 := Lib.hid hg3
  have HK3 := Lib.hid hk3'
  have HR3 := Lib.hid hr3
  clear hk3 hk3' hr3
  have x3_0 : w3.cell? ⟨w1.heap.size, 0, none⟩ = some (.int .i64 (3 : Nat)) := blk_cell hg3 0
  have x3_1 : w3.cell? ⟨w1.heap.size, 1, none⟩ = some (.string ⟨#[]⟩) := blk_cell hg3 1
  have x3_2 : w3.cell? ⟨w1.heap.size, 2, none⟩ = some (.string ⟨#[]⟩) := blk_cell hg3 2
  have x3_3 : w3.cell? ⟨w1.heap.size, 3, none⟩ = some (.string ⟨#[]⟩) := blk_cell hg3 3
  have x3_4 : w3.cell? ⟨w1.heap.size, 4, none⟩ = some (.int .i64 0) := blk_cell hg3 4
  have xf3_1 := blk_frozen hg3 1
  have xf3_2 := blk_frozen hg3 2
  have xf3_3 := blk_frozen hg3 3
  clear hg3
  have hr4 := HR3.out.set_ (i := 1) (u := .string key) HG3.out ⟨by decide, by decide, by decide⟩
  obtain ⟨ev4, hb4, he4⟩ := hr4
  rw [hE] at he4
  obtain ⟨t4, a4, rfl⟩ := IsErr.form he4
  obtain ⟨y0, y1, y2, _⟩ := rd_cells hb4
  clear hb4 he4 hE
  go_wp2_with fail
  clear y0 y1 y2
  have hk9 : Keeps (· = R) w1 (w3.setCell ⟨w1.heap.size, 1, none⟩ (.string key)) := HK3.out.setCell _ _ (fun h => absurd h (Nat.lt_irrefl _))
  have hg9 : (w3.setCell ⟨w1.heap.size, 1, none⟩ (.string key)).heap[w1.heap.size]? = some (.cells #[.int .i64 (3 : Nat), .string key, .string ⟨#[]⟩, .string ⟨#[]⟩, .int .i64 0] 74 (0, 0)) := blk_set HG3.out 1 _
  have hr9 := HR3.out.set_ (i := 1) (u := .string key) HG3.out ⟨by decide, by decide, by decide⟩
  obtain ⟨ev1, hrb⟩ : ∃ ev1, w1.heap[R]? = some (rdBlk s st1.at_ ev1) := let ⟨ev, h, _⟩ := HR1.out; ⟨ev, h⟩
  have ho9 := HO1.out.rd (sp := sp) hrb hk9
  have hw9 := keeps_below HW1.out hk9 (fun k e => by omega)
  clear hrb
  clear x3_0 x3_1 x3_2 x3_3 x3_4 xf3_1 xf3_2 xf3_3
  generalize w3.setCell ⟨w1.heap.size, 1, none⟩ (.string key) = w9 at *
  generalize w1.heap.size = G at *
  have o0 : w9.cell? ⟨O, 1, none⟩ = some sv := blk_cell ho9.blk 1
  have o1 : ∀ ob, (w9.alloc ob).cell? ⟨O, 1, none⟩ = some sv := fun ob => cell_below (below_new w9 ob) o0
  have d0 : w9.cell? ⟨G, 0, none⟩ = some (.int .i64 (3 : Nat)) := blk_cell hg9 0
  have d1 : w9.cell? ⟨G, 1, none⟩ = some (.string key) := blk_cell hg9 1
  have d2 : w9.cell? ⟨G, 2, none⟩ = some (.string ⟨#[]⟩) := blk_cell hg9 2
  have d3 : w9.cell? ⟨G, 3, none⟩ = some (.string ⟨#[]⟩) := blk_cell hg9 3
  have d4 : w9.cell? ⟨G, 4, none⟩ = some (.int .i64 0) := blk_cell hg9 4
  have HW9 : Hid (Below W.heap.size W w9.drew) := hw9.drew
  have HO9 : Hid (OpAt w9.drew W.heap.size O gv sv gs ss) := ⟨ho9.blk, ho9.grow, ho9.srow⟩
  have HR9 : Hid (RdAt sp w9.drew R s st2) := hr9.below ((Below.refl _ _).drew)
  have hbs : W.heap.size ≤ w9.drew.heap.size := hw9.size
  clear hk9 hg9 hr9 ho9 hw9
  obtain ⟨ca, cc, hgv⟩ : ∃ A c, sv = .slice A ss.length c := own_slice HO9.out.srow
  subst hgv
  go_region_law (refine step_append_cells (w0 := W) W.heap.size rfl (.tmp 57) (.tmp 59) 30 74 (.agg #[.int .i64 0, .string ⟨#[]⟩, .string ⟨#[]⟩, .string ⟨#[]⟩, .int .i64 0]) 5 64 rfl Tryd.underlying30 infoStp rfl (by decide) (by decide) _ ss.length (ss.flatMap scells) (scells ⟨3, key, ⟨#[]⟩, ⟨#[]⟩, 0⟩) rfl rfl rfl (scells_one _) HO9.out.srow HW9.out hbs (by omega) ?_; intro v1 w7 h1 hb7 hg7 ha7; have hob := blk_grown HO9.out.blk hg7 (own_ne HO9.out.srow HO9.out.blk (by decide)); have q0 := blk_cell hob 1; have qf := blk_frozen hob 1; obtain ⟨ca1, cc1, hv1⟩ := own_slice h1; subst hv1; have HFF := Lib.hid (after_step HR9.out HO9.out HW9.out hO h1 hg7); clear h1 hb7 hg7 ha7 hob)
  all_goals
    go_wp2
    go_end0
    exact ⟨rfl, HFF.out.1, ⟨_, _, HFF.out.2.1⟩, HFF.out.2.2⟩
set_option maxRecDepth 100000 in
set_option maxHeartbeats 8000000 in
theorem step_threeN {sp : Nat → Addr} (R O : Nat) (s : ByteArray) (st1 st2 : RSt) (key : ByteArray) (hE : st2.err = none) (hst2 : st2.ok) (n nx : Nat) (hT : stake s st2.at_ = .ok n nx) (gs : List Grd) (ss : List Stp) (gv sv : Value) (W w : World) (hL : Laid sp W) (hW : Below W.heap.size W w) (hR : W.heap.size ≤ R) (hO : W.heap.size ≤ O) {st : RSt} (hr : RdAt sp w R s st) (ho : OpAt w W.heap.size O gv sv gs ss)
    (hs : s.size ≤ 10000000) (hg : ss.length ≤ 1000)
    (HK : Hid (Calls Tryd.prog 90 #[.pointer (some ⟨R, 0, none⟩), .int .i64 4] w fun e w' => RPost sp R s w (.int .i64 (3 : Nat)) st1 e w'))
    (HT1 : Hid (∀ w, Laid sp w → RdAt sp w R s st1 → Calls Tryd.prog 91 #[.pointer (some ⟨R, 0, none⟩), .int .i64 16] w fun e w' => RPost sp R s w (.string key) st2 e w')) :
    Calls Tryd.prog 51 #[.pointer (some ⟨R, 0, none⟩), .pointer (some ⟨O, 0, none⟩)] w fun e w' => GPost sp W R O s ⟨nx, none⟩ gs (ss ++ [⟨3, key, ⟨#[]⟩, ⟨#[]⟩, zag n⟩]) e w' := by
  have HL := Lib.hid hL
  have HW := Lib.hid hW
  have HO := Lib.hid ho
  obtain ⟨ev, hb, _⟩ := hr
  have HRB := Lib.hid hb
  clear hL hW ho hb
  have HTI := Lib.hid (fun w (hL : Laid sp w) => takeInt_calls (sp := sp) s st2.at_ w hL hs hst2)
  rw [hT] at HTI
  clear hT hst2
  go_enter Tryd.func51, Tryd.ntmps51
  go_wp2_with fail
  refine HK.out.mono ?_
  rintro e w1 ⟨rfl, hr1, hk1⟩
  have HO1 := Lib.hid (HO.out.rd (sp := sp) HRB.out hk1)
  have HW1 := Lib.hid (keeps_below HW.out hk1 (fun k e => by omega))
  have HR1 := Lib.hid hr1
  clear hr1 hk1
  have hRlt : R < w1.heap.size := let ⟨_, h, _⟩ := HR1.out; blk_lt' h
  go_wp2_with fail
  refine (HT1.out _ (HL.out.below (HW1.out.alloc HW1.out.size _)) (HR1.out.below (below_new _ _))).mono ?_
  rintro e w3 ⟨rfl, hr3, hk3⟩
  have hg3 : w3.heap[w1.heap.size]? = some (.cells #[.int .i64 (3 : Nat), .string ⟨#[]⟩, .string ⟨#[]⟩, .string ⟨#[]⟩, .int .i64 0] 74 (0, 0)) := blk_keeps (heap_new w1 _) hk3 (fun e => by omega)
  have hk3' : Keeps (· = R) w1 w3 := (Keeps.of_below (below_new _ _)).trans hk3
  have HG3 := Lib.hid hg3
  have HK3 := Lib.hid hk3'
  have HR3 := Lib.hid hr3
  clear hk3 hk3' hr3
  have x3_0 : w3.cell? ⟨w1.heap.size, 0, none⟩ = some (.int .i64 (3 : Nat)) := blk_cell hg3 0
  have x3_1 : w3.cell? ⟨w1.heap.size, 1, none⟩ = some (.string ⟨#[]⟩) := blk_cell hg3 1
  have x3_2 : w3.cell? ⟨w1.heap.size, 2, none⟩ = some (.string ⟨#[]⟩) := blk_cell hg3 2
  have x3_3 : w3.cell? ⟨w1.heap.size, 3, none⟩ = some (.string ⟨#[]⟩) := blk_cell hg3 3
  have x3_4 : w3.cell? ⟨w1.heap.size, 4, none⟩ = some (.int .i64 0) := blk_cell hg3 4
  have xf3_1 := blk_frozen hg3 1
  have xf3_2 := blk_frozen hg3 2
  have xf3_3 := blk_frozen hg3 3
  clear hg3
  have hr4 := HR3.out.set_ (i := 1) (u := .string key) HG3.out ⟨by decide, by decide, by decide⟩
  obtain ⟨ev4, hb4, he4⟩ := hr4
  rw [hE] at he4
  obtain rfl : ev4 = .nilIface := he4
  obtain ⟨y0, y1, y2, _⟩ := rd_cells hb4
  have HB4 := Lib.hid hb4
  have HK4 : Hid (Keeps (· = R) w1 (w3.setCell ⟨w1.heap.size, 1, none⟩ (.string key))) := HK3.out.setCell _ _ (fun h => absurd h (Nat.lt_irrefl _))
  have HG4 : Hid ((w3.setCell ⟨w1.heap.size, 1, none⟩ (.string key)).heap[w1.heap.size]? = some (.cells #[.int .i64 (3 : Nat), .string key, .string ⟨#[]⟩, .string ⟨#[]⟩, .int .i64 0] 74 (0, 0))) := blk_set HG3.out 1 _
  have HL4 := Lib.hid (HL.out.below (keeps_below HW1.out HK4.out (fun k e => by omega)))
  have HGR : Hid (¬ R = w1.heap.size) := fun e => by omega
  clear hb4 hE
  go_wp2_with fail
  clear x3_0 x3_1 x3_2 x3_3 x3_4 xf3_1 xf3_2 xf3_3
  generalize w3.setCell ⟨w1.heap.size, 1, none⟩ (.string key) = w4 at *
  generalize hGG : w1.heap.size = G at *
  have HGG := Lib.hid hGG
  clear hGG
  go_region_law (go_simp; go_at_call 92; refine (HTI.out _ (HL4.out.below ((Below.refl _ _).drew))).mono ?_; rintro e w5 ⟨rfl, h2⟩; have hb5 := rd_below (w := w4.drew) HB4.out h2; have hg5 := rd_below (w := w4.drew) HG4.out h2; obtain ⟨z0, z1, z2, z3⟩ := rd_cells hb5; have z4 := z3 1; have z5 := z3 2; have z6 := blk_cell hg5 4; have z7 := blk_frozen hg5 4; have HB5 := Lib.hid hb5; have HG5 := Lib.hid hg5; have H25 := Lib.hid (below_undrew h2); clear hb5 hg5 h2 z3)
  all_goals
    have hg9 : (((w5.setCell ⟨G, 4, none⟩ (.int .i64 (zag n))).setCell ⟨R, 1, none⟩ (.int .i64 nx)).setCell ⟨R, 2, none⟩ (.nilIface)).heap[G]? = some (.cells #[.int .i64 (3 : Nat), .string key, .string ⟨#[]⟩, .string ⟨#[]⟩, .int .i64 (zag n)] 74 (0, 0)) := blk_far (blk_far (blk_set HG5.out 4 _) (fun e => HGR.out e.symm) _) (fun e => HGR.out e.symm) _
    have hb9 : (((w5.setCell ⟨G, 4, none⟩ (.int .i64 (zag n))).setCell ⟨R, 1, none⟩ (.int .i64 nx)).setCell ⟨R, 2, none⟩ (.nilIface)).heap[R]? = some (rdBlk s nx (.nilIface)) := rd_set2 (rd_set1 (blk_far HB5.out HGR.out _) _) _
    have hr9 : RdAt sp (((w5.setCell ⟨G, 4, none⟩ (.int .i64 (zag n))).setCell ⟨R, 1, none⟩ (.int .i64 nx)).setCell ⟨R, 2, none⟩ (.nilIface)) R s ⟨nx, none⟩ := ⟨_, hb9, rfl⟩
    have hk9 : Keeps (· = R) w1 (((w5.setCell ⟨G, 4, none⟩ (.int .i64 (zag n))).setCell ⟨R, 1, none⟩ (.int .i64 nx)).setCell ⟨R, 2, none⟩ (.nilIface)) := (((HK4.out.trans (Keeps.of_below H25.out)).setCell _ _ (fun h => absurd h (by rw [HGG.out]; exact Nat.lt_irrefl _))).setCell _ _ (fun _ => rfl)).setCell _ _ (fun _ => rfl)
    obtain ⟨ev1, hrb⟩ : ∃ ev1, w1.heap[R]? = some (rdBlk s st1.at_ ev1) := let ⟨ev, h, _⟩ := HR1.out; ⟨ev, h⟩
    have ho9 := HO1.out.rd (sp := sp) hrb hk9
    have hw9 := keeps_below HW1.out hk9 (fun k e => by omega)
    clear hrb hb9 z0 z1 z2 z4 z5 z6 z7 y0 y1 y2
    generalize (((w5.setCell ⟨G, 4, none⟩ (.int .i64 (zag n))).setCell ⟨R, 1, none⟩ (.int .i64 nx)).setCell ⟨R, 2, none⟩ (.nilIface)) = w9 at *
    have o0 : w9.cell? ⟨O, 1, none⟩ = some sv := blk_cell ho9.blk 1
    have o1 : ∀ ob, (w9.alloc ob).cell? ⟨O, 1, none⟩ = some sv := fun ob => cell_below (below_new w9 ob) o0
    have d0 : w9.cell? ⟨G, 0, none⟩ = some (.int .i64 (3 : Nat)) := blk_cell hg9 0
    have d1 : w9.cell? ⟨G, 1, none⟩ = some (.string key) := blk_cell hg9 1
    have d2 : w9.cell? ⟨G, 2, none⟩ = some (.string ⟨#[]⟩) := blk_cell hg9 2
    have d3 : w9.cell? ⟨G, 3, none⟩ = some (.string ⟨#[]⟩) := blk_cell hg9 3
    have d4 : w9.cell? ⟨G, 4, none⟩ = some (.int .i64 (zag n)) := blk_cell hg9 4
    have HW9 : Hid (Below W.heap.size W w9.drew) := hw9.drew
    have HO9 : Hid (OpAt w9.drew W.heap.size O gv sv gs ss) := ⟨ho9.blk, ho9.grow, ho9.srow⟩
    have HR9 : Hid (RdAt sp w9.drew R s ⟨nx, none⟩) := hr9.below ((Below.refl _ _).drew)
    have hbs : W.heap.size ≤ w9.drew.heap.size := hw9.size
    clear hk9 hg9 hr9 ho9 hw9
    go_wp2_with fail
    obtain ⟨ca, cc, hgv⟩ : ∃ A c, sv = .slice A ss.length c := own_slice HO9.out.srow
    subst hgv
    go_region_law (refine step_append_cells (w0 := W) W.heap.size rfl (.tmp 57) (.tmp 59) 30 74 (.agg #[.int .i64 0, .string ⟨#[]⟩, .string ⟨#[]⟩, .string ⟨#[]⟩, .int .i64 0]) 5 64 rfl Tryd.underlying30 infoStp rfl (by decide) (by decide) _ ss.length (ss.flatMap scells) (scells ⟨3, key, ⟨#[]⟩, ⟨#[]⟩, zag n⟩) rfl rfl rfl (scells_one _) HO9.out.srow HW9.out hbs (by omega) ?_; intro v1 w7 h1 hb7 hg7 ha7; have hob := blk_grown HO9.out.blk hg7 (own_ne HO9.out.srow HO9.out.blk (by decide)); have q0 := blk_cell hob 1; have qf := blk_frozen hob 1; obtain ⟨ca1, cc1, hv1⟩ := own_slice h1; subst hv1; have HFF := Lib.hid (after_step HR9.out HO9.out HW9.out hO h1 hg7); clear h1 hb7 hg7 ha7 hob)
    all_goals
      go_wp2
      go_end0
      exact ⟨rfl, HFF.out.1, ⟨_, _, HFF.out.2.1⟩, HFF.out.2.2⟩
set_option maxRecDepth 100000 in
set_option maxHeartbeats 8000000 in
theorem step_threeB {sp : Nat → Addr} (R O : Nat) (s : ByteArray) (st1 st2 : RSt) (key : ByteArray) (hE : st2.err = none) (hst2 : st2.ok) (c : Nat) (hT : stake s st2.at_ = .bad c) (gs : List Grd) (ss : List Stp) (gv sv : Value) (W w : World) (hL : Laid sp W) (hW : Below W.heap.size W w) (hR : W.heap.size ≤ R) (hO : W.heap.size ≤ O) {st : RSt} (hr : RdAt sp w R s st) (ho : OpAt w W.heap.size O gv sv gs ss)
    (hs : s.size ≤ 10000000) (hg : ss.length ≤ 1000)
    (HK : Hid (Calls Tryd.prog 90 #[.pointer (some ⟨R, 0, none⟩), .int .i64 4] w fun e w' => RPost sp R s w (.int .i64 (3 : Nat)) st1 e w'))
    (HT1 : Hid (∀ w, Laid sp w → RdAt sp w R s st1 → Calls Tryd.prog 91 #[.pointer (some ⟨R, 0, none⟩), .int .i64 16] w fun e w' => RPost sp R s w (.string key) st2 e w')) :
    Calls Tryd.prog 51 #[.pointer (some ⟨R, 0, none⟩), .pointer (some ⟨O, 0, none⟩)] w fun e w' => GPost sp W R O s ⟨0, some (.at st2.at_ (.sent c))⟩ gs (ss ++ [⟨3, key, ⟨#[]⟩, ⟨#[]⟩, 0⟩]) e w' := by
  have HL := Lib.hid hL
  have HW := Lib.hid hW
  have HO := Lib.hid ho
  obtain ⟨ev, hb, _⟩ := hr
  have HRB := Lib.hid hb
  clear hL hW ho hb
  have HTI := Lib.hid (fun w (hL : Laid sp w) => takeInt_calls (sp := sp) s st2.at_ w hL hs hst2)
  rw [hT] at HTI
  clear hT hst2
  go_enter Tryd.func51, Tryd.ntmps51
  go_wp2_with fail
  refine HK.out.mono ?_
  rintro e w1 ⟨rfl, hr1, hk1⟩
  have HO1 := Lib.hid (HO.out.rd (sp := sp) HRB.out hk1)
  have HW1 := Lib.hid (keeps_below HW.out hk1 (fun k e => by omega))
  have HR1 := Lib.hid hr1
  clear hr1 hk1
  have hRlt : R < w1.heap.size := let ⟨_, h, _⟩ := HR1.out; blk_lt' h
  go_wp2_with fail
  refine (HT1.out _ (HL.out.below (HW1.out.alloc HW1.out.size _)) (HR1.out.below (below_new _ _))).mono ?_
  rintro e w3 ⟨rfl, hr3, hk3⟩
  have hg3 : w3.heap[w1.heap.size]? = some (.cells #[.int .i64 (3 : Nat), .string ⟨#[]⟩, .string ⟨#[]⟩, .string ⟨#[]⟩, .int .i64 0] 74 (0, 0)) := blk_keeps (heap_new w1 _) hk3 (fun e => by omega)
  have hk3' : Keeps (· = R) w1 w3 := (Keeps.of_below (below_new _ _)).trans hk3
  have HG3 := Lib.hid hg3
  have HK3 := Lib.hid hk3'
  have HR3 := Lib.hid hr3
  clear hk3 hk3' hr3
  have x3_0 : w3.cell? ⟨w1.heap.size, 0, none⟩ = some (.int .i64 (3 : Nat)) := blk_cell hg3 0
  have x3_1 : w3.cell? ⟨w1.heap.size, 1, none⟩ = some (.string ⟨#[]⟩) := blk_cell hg3 1
  have x3_2 : w3.cell? ⟨w1.heap.size, 2, none⟩ = some (.string ⟨#[]⟩) := blk_cell hg3 2
  have x3_3 : w3.cell? ⟨w1.heap.size, 3, none⟩ = some (.string ⟨#[]⟩) := blk_cell hg3 3
  have x3_4 : w3.cell? ⟨w1.heap.size, 4, none⟩ = some (.int .i64 0) := blk_cell hg3 4
  have xf3_1 := blk_frozen hg3 1
  have xf3_2 := blk_frozen hg3 2
  have xf3_3 := blk_frozen hg3 3
  clear hg3
  have hr4 := HR3.out.set_ (i := 1) (u := .string key) HG3.out ⟨by decide, by decide, by decide⟩
  obtain ⟨ev4, hb4, he4⟩ := hr4
  rw [hE] at he4
  obtain rfl : ev4 = .nilIface := he4
  obtain ⟨y0, y1, y2, _⟩ := rd_cells hb4
  have HB4 := Lib.hid hb4
  have HK4 : Hid (Keeps (· = R) w1 (w3.setCell ⟨w1.heap.size, 1, none⟩ (.string key))) := HK3.out.setCell _ _ (fun h => absurd h (Nat.lt_irrefl _))
  have HG4 : Hid ((w3.setCell ⟨w1.heap.size, 1, none⟩ (.string key)).heap[w1.heap.size]? = some (.cells #[.int .i64 (3 : Nat), .string key, .string ⟨#[]⟩, .string ⟨#[]⟩, .int .i64 0] 74 (0, 0))) := blk_set HG3.out 1 _
  have HL4 := Lib.hid (HL.out.below (keeps_below HW1.out HK4.out (fun k e => by omega)))
  have HGR : Hid (¬ R = w1.heap.size) := fun e => by omega
  clear hb4 hE
  go_wp2_with fail
  clear x3_0 x3_1 x3_2 x3_3 x3_4 xf3_1 xf3_2 xf3_3
  generalize w3.setCell ⟨w1.heap.size, 1, none⟩ (.string key) = w4 at *
  generalize hGG : w1.heap.size = G at *
  have HGG := Lib.hid hGG
  clear hGG
  go_region_law (go_simp; go_at_call 92; refine (HTI.out _ (HL4.out.below ((Below.refl _ _).drew))).mono ?_; rintro e w5 ⟨v, rfl, h1, h2⟩; obtain ⟨t, a, rfl⟩ := h1.form; have HE5 := Lib.hid h1; clear h1; have hb5 := rd_below (w := w4.drew) HB4.out h2; have hg5 := rd_below (w := w4.drew) HG4.out h2; obtain ⟨z0, z1, z2, z3⟩ := rd_cells hb5; have z4 := z3 1; have z5 := z3 2; have z6 := blk_cell hg5 4; have z7 := blk_frozen hg5 4; have HB5 := Lib.hid hb5; have HG5 := Lib.hid hg5; have H25 := Lib.hid (below_undrew h2); clear hb5 hg5 h2 z3)
  all_goals
    have hg9 : (((w5.setCell ⟨G, 4, none⟩ (.int .i64 (0))).setCell ⟨R, 1, none⟩ (.int .i64 0)).setCell ⟨R, 2, none⟩ (.iface t (.pointer (some a)))).heap[G]? = some (.cells #[.int .i64 (3 : Nat), .string key, .string ⟨#[]⟩, .string ⟨#[]⟩, .int .i64 (0)] 74 (0, 0)) := blk_far (blk_far (blk_set HG5.out 4 _) (fun e => HGR.out e.symm) _) (fun e => HGR.out e.symm) _
    have hb9 : (((w5.setCell ⟨G, 4, none⟩ (.int .i64 (0))).setCell ⟨R, 1, none⟩ (.int .i64 0)).setCell ⟨R, 2, none⟩ (.iface t (.pointer (some a)))).heap[R]? = some (rdBlk s 0 (.iface t (.pointer (some a)))) := rd_set2 (rd_set1 (blk_far HB5.out HGR.out _) _) _
    have hr9 : RdAt sp (((w5.setCell ⟨G, 4, none⟩ (.int .i64 (0))).setCell ⟨R, 1, none⟩ (.int .i64 0)).setCell ⟨R, 2, none⟩ (.iface t (.pointer (some a)))) R s ⟨0, some (.at st2.at_ (.sent c))⟩ := ⟨_, hb9, HE5.out.keeps (S := fun k => k = G ∨ k = R) ((((Keeps.refl _ _).setCell _ _ (fun _ => .inl rfl)).setCell _ _ (fun _ => .inr rfl)).setCell _ _ (fun _ => .inr rfl)) (fun k e cs t hc => by
      rcases e with rfl | rfl
      · rw [HG5.out] at hc
        injection hc with hc
        injection hc with _ ht
        subst ht
        exact ⟨by decide, by decide⟩
      · rw [HB5.out] at hc
        unfold rdBlk at hc
        injection hc with hc
        injection hc with _ ht
        subst ht
        exact ⟨by decide, by decide⟩)⟩
    have hk9 : Keeps (· = R) w1 (((w5.setCell ⟨G, 4, none⟩ (.int .i64 (0))).setCell ⟨R, 1, none⟩ (.int .i64 0)).setCell ⟨R, 2, none⟩ (.iface t (.pointer (some a)))) := (((HK4.out.trans (Keeps.of_below H25.out)).setCell _ _ (fun h => absurd h (by rw [HGG.out]; exact Nat.lt_irrefl _))).setCell _ _ (fun _ => rfl)).setCell _ _ (fun _ => rfl)
    obtain ⟨ev1, hrb⟩ : ∃ ev1, w1.heap[R]? = some (rdBlk s st1.at_ ev1) := let ⟨ev, h, _⟩ := HR1.out; ⟨ev, h⟩
    have ho9 := HO1.out.rd (sp := sp) hrb hk9
    have hw9 := keeps_below HW1.out hk9 (fun k e => by omega)
    clear hrb hb9 z0 z1 z2 z4 z5 z6 z7 y0 y1 y2
    generalize (((w5.setCell ⟨G, 4, none⟩ (.int .i64 (0))).setCell ⟨R, 1, none⟩ (.int .i64 0)).setCell ⟨R, 2, none⟩ (.iface t (.pointer (some a)))) = w9 at *
    have o0 : w9.cell? ⟨O, 1, none⟩ = some sv := blk_cell ho9.blk 1
    have o1 : ∀ ob, (w9.alloc ob).cell? ⟨O, 1, none⟩ = some sv := fun ob => cell_below (below_new w9 ob) o0
    have d0 : w9.cell? ⟨G, 0, none⟩ = some (.int .i64 (3 : Nat)) := blk_cell hg9 0
    have d1 : w9.cell? ⟨G, 1, none⟩ = some (.string key) := blk_cell hg9 1
    have d2 : w9.cell? ⟨G, 2, none⟩ = some (.string ⟨#[]⟩) := blk_cell hg9 2
    have d3 : w9.cell? ⟨G, 3, none⟩ = some (.string ⟨#[]⟩) := blk_cell hg9 3
    have d4 : w9.cell? ⟨G, 4, none⟩ = some (.int .i64 (0)) := blk_cell hg9 4
    have HW9 : Hid (Below W.heap.size W w9.drew) := hw9.drew
    have HO9 : Hid (OpAt w9.drew W.heap.size O gv sv gs ss) := ⟨ho9.blk, ho9.grow, ho9.srow⟩
    have HR9 : Hid (RdAt sp w9.drew R s ⟨0, some (.at st2.at_ (.sent c))⟩) := hr9.below ((Below.refl _ _).drew)
    have hbs : W.heap.size ≤ w9.drew.heap.size := hw9.size
    clear hk9 hg9 hr9 ho9 hw9
    go_wp2_with fail
    obtain ⟨ca, cc, hgv⟩ : ∃ A c, sv = .slice A ss.length c := own_slice HO9.out.srow
    subst hgv
    go_region_law (refine step_append_cells (w0 := W) W.heap.size rfl (.tmp 57) (.tmp 59) 30 74 (.agg #[.int .i64 0, .string ⟨#[]⟩, .string ⟨#[]⟩, .string ⟨#[]⟩, .int .i64 0]) 5 64 rfl Tryd.underlying30 infoStp rfl (by decide) (by decide) _ ss.length (ss.flatMap scells) (scells ⟨3, key, ⟨#[]⟩, ⟨#[]⟩, 0⟩) rfl rfl rfl (scells_one _) HO9.out.srow HW9.out hbs (by omega) ?_; intro v1 w7 h1 hb7 hg7 ha7; have hob := blk_grown HO9.out.blk hg7 (own_ne HO9.out.srow HO9.out.blk (by decide)); have q0 := blk_cell hob 1; have qf := blk_frozen hob 1; obtain ⟨ca1, cc1, hv1⟩ := own_slice h1; subst hv1; have HFF := Lib.hid (after_step HR9.out HO9.out HW9.out hO h1 hg7); clear h1 hb7 hg7 ha7 hob)
    all_goals
      go_wp2
      go_end0
      exact ⟨rfl, HFF.out.1, ⟨_, _, HFF.out.2.1⟩, HFF.out.2.2⟩

theorem step_calls {sp : Nat → Addr} (R O : Nat) (s : ByteArray) (st : RSt) (gs : List Grd) (ss : List Stp) (gv sv : Value) (W w : World) (hL : Laid sp W) (hW : Below W.heap.size W w) (hR : W.heap.size ≤ R) (hO : W.heap.size ≤ O) (hr : RdAt sp w R s st) (ho : OpAt w W.heap.size O gv sv gs ss)
    (hs : s.size ≤ 10000000) (hst : st.ok) (hg : ss.length ≤ 1000) :
    Calls Tryd.prog 51 #[.pointer (some ⟨R, 0, none⟩), .pointer (some ⟨O, 0, none⟩)] w fun e w' => GPost sp W R O s (stepF s st).2 gs (ss ++ [(stepF s st).1]) e w' := by
  have HK := Lib.hid (kind_calls R s st 4 W w hL hW hR hr hs hst (by omega))
  obtain ⟨ko, kl⟩ := kind_ok (most := 4) hst hs
  unfold stepF
  generalize kindF s 4 st = r1 at *
  obtain ⟨k, st1⟩ := r1
  simp only at ko kl HK ⊢
  have HT1 := Lib.hid (fun w (hL : Laid sp w) hr => text_calls (sp := sp) R s st1 16 w hL hr hs ko (by omega))
  obtain ⟨to1, _⟩ := text_ok (most := 16) ko hs
  generalize textF s 16 st1 = r2 at *
  obtain ⟨key, st2⟩ := r2
  simp only at to1 HT1 ⊢
  have HT2 := Lib.hid (fun w (hL : Laid sp w) hr => text_calls (sp := sp) R s st2 32 w hL hr hs to1 (by omega))
  obtain ⟨to2, _⟩ := text_ok (most := 32) to1 hs
  generalize textF s 32 st2 = r3 at *
  obtain ⟨val, st3⟩ := r3
  simp only at to2 HT2 ⊢
  have HT3 := Lib.hid (fun w (hL : Laid sp w) hr => text_calls (sp := sp) R s st3 32 w hL hr hs to2 (by omega))
  generalize textF s 32 st3 = r4 at *
  obtain ⟨val2, st4⟩ := r4
  simp only at HT3 ⊢
  by_cases k1 : k = 1
  · subst k1
    rw [if_pos rfl]
    exact step_one R O s st1 st2 st3 key val gs ss gv sv W w hL hW hR hO hr ho hs hg HK HT1 HT2
  rw [if_neg k1]
  by_cases k3 : k = 3
  · subst k3
    rw [if_pos rfl]
    unfold intF
    cases hE : st2.err with
    | some er => exact step_threeE R O s st1 st2 key er hE gs ss gv sv W w hL hW hR hO hr ho hs hg HK HT1
    | none =>
      cases hT : stake s st2.at_ with
      | bad c => exact step_threeB R O s st1 st2 key hE to1 c hT gs ss gv sv W w hL hW hR hO hr ho hs hg HK HT1
      | ok n nx => exact step_threeN R O s st1 st2 key hE to1 n nx hT gs ss gv sv W w hL hW hR hO hr ho hs hg HK HT1
  rw [if_neg k3]
  by_cases k4 : k = 4
  · subst k4
    rw [if_pos rfl]
    exact step_four R O s st1 st2 st3 st4 key val2 val gs ss gv sv W w hL hW hR hO hr ho hs hg HK HT1 HT2 HT3
  rw [if_neg k4]
  exact step_other R O s st1 st2 key k k1 k3 k4 gs ss gv sv W w hL hW hR hO hr ho hs hg HK HT1

end Go.Proofs.YtgjabbffpfhmjaaDoor
