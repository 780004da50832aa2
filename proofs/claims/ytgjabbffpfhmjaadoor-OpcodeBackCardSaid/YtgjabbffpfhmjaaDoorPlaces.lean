/- fail.Places: the places of a plain error, the outermost first. -/
import Derived.Test.YtgjabbffpfhmjaaDoorAsAt
import Derived.Test.YtgjabbffpfhmjaaDoorWWords
namespace Go.Proofs.YtgjabbffpfhmjaaDoor
open Go.RowKit Go.Extern.Stop Go.Stop Go.Extern Go.Proofs.YtgjabbffpfhmjaaDoorW.PrintWords

theorem infoInt : (Tryd.prog.info? 3).map (fun i => (i.zero, i.size, i.bytes)) = some (some (.int .i64 0), 1, 8) := by kernel_rfl

theorem places_nil (w : World) :
    Calls Tryd.prog 62 #[.nilIface] w fun e w' => e = .returned (.slice none 0 0) ∧ w' = w := by
  go_enter Tryd.func62, Tryd.ntmps62
  go_wp2
  refine wp_loop_rounds 1 ?_
  rw [rounds_succ]
  go_wp2
  go_ret
  exact ⟨rfl, rfl⟩

def Er.pdepth : Er → Nat
  | .sent _ => 0
  | .at _ e => e.pdepth + 1
  | .flt _ _ => 0

set_option maxRecDepth 100000 in
set_option maxHeartbeats 4000000 in
theorem places_calls {sp : Nat → Addr} (E : Value) (e0 : Er) (w : World) (hL : Laid sp w) (he : IsErr sp w E e0) (hp : e0.plain) (hd : e0.places.length ≤ 1000) :
    Calls Tryd.prog 62 #[E] w fun e w' => ∃ v, e = .returned v ∧ w'.ownsRow w.heap.size 3 1 v e0.places.length (nums .i64 e0.places) ∧ Below w.heap.size w w' := by
  obtain ⟨i0, hi, hz0, hz1, hz2⟩ := info_parts infoInt
  obtain ⟨te, ae, hE⟩ := he.form
  subst hE
  have HE := Lib.hid he
  have HL := Lib.hid hL
  have HD := Lib.hid hd
  have HP := Lib.hid hp
  have hinj := Lib.hid hL.inj
  clear he hL hd hp
  go_enter Tryd.func62, Tryd.ntmps62
  go_wp2
  go_loopw [0, 3] (fun E' v wl => ∃ (e' : Er) (ps : List Int), IsErr sp w E' e' ∧ e'.plain ∧ ps ++ e'.places = e0.places ∧ wl.ownsRow w.heap.size 3 1 v ps.length (nums .i64 ps) ∧ Below w.heap.size w wl) (fun E' _ _ => erLen sp w E')
  case atStart => exact ⟨e0, [], HE.out, HP.out, rfl, World.ownsRow_nil _ _ _ _, Below.refl _ _⟩
  case round =>
    obtain ⟨e', ps, he', hp', hps, hown, hB⟩ := hrel
    have HLr := Lib.hid (HL.out.below hB)
    cases he' with
    | sent d hdc =>
      have hpe : ps = e0.places := by rw [← hps]; simp [Er.places]
      subst hpe
      have HO := Lib.hid hown
      have HBB := Lib.hid hB
      clear hown hB hps
      go_wp2_with fail
      refine (AsAt.as_sent (sp d) _ _ (HLr.out.below (below_new _ _))).mono ?_
      rintro e w1 ⟨rfl, hk⟩
      have hk2 := below_trans (below_new wr _) hk
      have HF := Lib.hid (And.intro (pw_own_below HO.out hk2) (HBB.out.trans (hk2.mono HBB.out.size)))
      clear hk hk2
      go_wp2
      go_ret
      exact ⟨_, rfl, HF.out.1, HF.out.2⟩
    | «at» b p v1 e1 hblk he1 =>
      have hlen := erLen_eq hinj.out he1
      have hlen0 := erLen_eq hinj.out (IsErr.at b p v1 e1 hblk he1)
      obtain ⟨t1, a1, rfl⟩ := he1.form
      have HO := Lib.hid hown
      have HBB := Lib.hid hB
      have HPS := Lib.hid hps
      have hlt : ps.length + 1 ≤ 1000 := by have h1 := HD.out; rw [← hps] at h1; simp [Er.places] at h1; omega
      have HP1 := Lib.hid hp'
      have HE1 := Lib.hid he1
      have HBLK := Lib.hid hblk
      have HLEN := Lib.hid hlen
      have HLEN0 := Lib.hid hlen0
      clear hown hB hps hp' he1 hblk hlen hlen0
      go_wp2_with fail
      refine (AsAt.as_hit ⟨b, 0, none⟩ wr.heap.size (.pointer none) 137 _ (HLr.out.below (below_new _ _)) (heap_new _ _)).mono ?_
      rintro e w1 ⟨rfl, hk, hblk1⟩
      have hk2 : Below wr.heap.size wr w1 := (below_new wr _).trans (hk.below (by simp) (fun k hk h => by omega))
      have hc0 : w1.cell? ⟨wr.heap.size, 0, none⟩ = some (.pointer (some ⟨b, 0, none⟩)) := blk_cell hblk1 0
      have hc1 : w1.cell? ⟨b, 0, none⟩ = some (.int .i64 p) := blk_cell (blk_below hk2 (blk_below HBB.out HBLK.out)) 0
      have hc2 : w1.cell? ⟨b, 1, none⟩ = some (.iface t1 (.pointer (some a1))) := blk_cell (blk_below hk2 (blk_below HBB.out HBLK.out)) 1
      have hown1 := pw_own_below HO.out hk2
      have hB1 := HBB.out.trans (hk2.mono HBB.out.size)
      have HO1 := Lib.hid hown1
      have HB1 := Lib.hid hB1
      have hge : w.heap.size ≤ w1.heap.size := hB1.size
      clear hk hk2 hblk1 hown1 hB1
      go_wp2_with (at_builtin; refine wpList_append_own _ rfl _ _ 102 rfl w.heap.size 3 i0 (.int .i64 0) 1 8 Tryd.underlying102 hi hz0 hz1 hz2 rfl (by decide) _ _ _ rfl (HO1.out.alloc _) ⟨w1.heap.size, 0, none⟩ 1 1 [.int .i64 p] rfl rfl ?c1 ?c2 ?c3 ?c4 ?c5 ?_)
      case c1 =>
        intro j u hj
        match j, hj with
        | 0, hj => simp at hj; subst hj; simp [Addr.add]
      case c2 => intro u hu; simp at hu; subst hu; rfl
      case c3 => unfold maxLen; omega
      case c4 => omega
      case c5 => simp; omega
      intro v' w2 hown2 hgrow _
      have hne : some wr.heap.size ≠ u3.ownBlock := fun h => by have := own_lt HO.out _ h.symm; omega
      have hd0 : w2.cell? ⟨wr.heap.size, 0, none⟩ = some (.pointer (some ⟨b, 0, none⟩)) := by
        have h1 : wr.heap.size < w1.heap.size := cell_lt hc0
        rw [World.cell?_of_block (hgrow.block wr.heap.size (by simp; omega) hne)]
        exact cell_below (below_new w1 _) hc0
      have hB2 : Below w.heap.size w w2 := (HB1.out.alloc hge _).grown hgrow (by simp; omega) (fun k hk => own_base HO1.out k hk)
      have hd2 : w2.cell? ⟨b, 1, none⟩ = some (.iface t1 (.pointer (some a1))) := blk_cell (blk_below hB2 HBLK.out) 1
      have HR0 : w2.ownsRow w.heap.size 3 1 v' (ps ++ [p]).length (nums .i64 (ps ++ [p])) := by
        have h := hown2
        rw [show nums .i64 ps ++ [.int .i64 p] = nums .i64 (ps ++ [p]) by simp [nums]] at h
        have h2 : (ps ++ [p]).length = ps.length + 1 := by simp
        rw [h2]; exact h
      have HR := Lib.hid HR0
      have HB2 := Lib.hid hB2
      clear HR0 hown2 hgrow hne hB2 hc0 hc1 hc2 hge
      go_wp2
      go_roundw
      case rel => exact ⟨e1, ps ++ [p], HE1.out, HP1.out, by rw [← HPS.out]; simp [Er.places], HR.out, HB2.out⟩
      case measure =>
        show erLen sp w (.iface t1 (.pointer (some a1))) < _
        rw [HLEN.out]
        show _ < erLen sp w (.iface 137 (.pointer (some ⟨b, 0, none⟩)))
        rw [HLEN0.out]; exact Nat.lt_succ_self _
    | flt b p v e1 hblk he1 => exact hp'.elim
end Go.Proofs.YtgjabbffpfhmjaaDoor
