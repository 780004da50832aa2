/- errors.Is with a sentinel as target, and fail.Code. -/
import Derived.Test.YtgjabbffpfhmjaaDoorErr
import Derived.Handy
namespace Go.Proofs.YtgjabbffpfhmjaaDoor
open Go.RowKit Go.Extern.Stop Go.Stop Go.Extern

theorem isTypeOf (v : Value) (w : World) : (Extern.ReflectliteType.typeOf #[.iface 218 v]).run Tryd.prog w = .ok (.iface 166 (.agg #[.pointer (some ⟨26, 218, none⟩)])) w := by kernel_rfl
def compFn : Array Value → Sem Value := Extern.ReflectliteType.method fun t => do Extern.Rtype.noPackHeld "Comparable" t; pure (.bool (← typeInfo t).comparable)
theorem isComparable (w : World) : (compFn #[.agg #[.pointer (some ⟨26, 218, none⟩)]]).run Tryd.prog w = .ok (.bool true) w := by kernel_rfl
theorem isComp : (Tryd.prog.info? 218).map (·.comparable) = some true := by kernel_rfl
theorem isSize : (Tryd.prog.info? 237).map (·.size) = some 1 := by kernel_rfl

theorem noIsE (v : Value) (xT : TypeId) (w : World) : (Instr.typeAssert (.iface 218 v) xT 168 true).run Tryd.prog w = .ok (.tuple #[.nilIface, .bool false]) w := run_typeAssert_lacksB Tryd.underlying168 (by kernel_rfl) (by kernel_rfl) v xT w
theorem noUnwrapE (v : Value) (xT : TypeId) (w : World) : (Instr.typeAssert (.iface 218 v) xT 171 true).run Tryd.prog w = .ok (.tuple #[.nilIface, .bool false]) w := run_typeAssert_lacksB Tryd.underlying171 (by kernel_rfl) (by kernel_rfl) v xT w
theorem noUnwrapsE (v : Value) (xT : TypeId) (w : World) : (Instr.typeAssert (.iface 218 v) xT 173 true).run Tryd.prog w = .ok (.tuple #[.nilIface, .bool false]) w := run_typeAssert_lacksB Tryd.underlying173 (by kernel_rfl) (by kernel_rfl) v xT w
theorem noIsA (v : Value) (xT : TypeId) (w : World) : (Instr.typeAssert (.iface 137 v) xT 168 true).run Tryd.prog w = .ok (.tuple #[.nilIface, .bool false]) w := run_typeAssert_lacksB Tryd.underlying168 (by kernel_rfl) (by kernel_rfl) v xT w
theorem hasUnwrapA (v : Value) (xT : TypeId) (w : World) : (Instr.typeAssert (.iface 137 v) xT 171 true).run Tryd.prog w = .ok (.tuple #[.iface 137 v, .bool true]) w := run_typeAssert_hasB Tryd.underlying171 (by kernel_rfl) v xT w
theorem noIsF (v : Value) (xT : TypeId) (w : World) : (Instr.typeAssert (.iface 142 v) xT 168 true).run Tryd.prog w = .ok (.tuple #[.nilIface, .bool false]) w := run_typeAssert_lacksB Tryd.underlying168 (by kernel_rfl) (by kernel_rfl) v xT w
theorem hasUnwrapF (v : Value) (xT : TypeId) (w : World) : (Instr.typeAssert (.iface 142 v) xT 171 true).run Tryd.prog w = .ok (.tuple #[.iface 142 v, .bool true]) w := run_typeAssert_hasB Tryd.underlying171 (by kernel_rfl) v xT w

set_option maxRecDepth 100000 in
set_option maxHeartbeats 1000000 in
theorem is_loop {sp : Nat → Addr} (c : Nat) (hc : isCode c) (w : World) (hL : Laid sp w) (E : Value) (e0 : Er) (he : IsErr sp w E e0) :
    Calls Tryd.prog 87 #[E, .iface 218 (.pointer (some (sp c))), .bool true] w fun e w' => e = .returned (.bool (e0.code == c)) ∧ w' = w := by
  obtain ⟨i, hi, hcmp⟩ := Option.map_eq_some_iff.1 isComp
  obtain ⟨j, hj, hjs⟩ := Option.map_eq_some_iff.1 isSize
  obtain ⟨cb, tb, hb⟩ := hL.blk c hc
  have nE := noIsE
  have uE := noUnwrapE
  have vE := noUnwrapsE
  have nA := noIsA
  have uA := hasUnwrapA
  have nF := noIsF
  have uF := hasUnwrapF
  go_enter Tryd.func87, Tryd.ntmps87
  go_wp2
  go_loopw [0] (fun E' wl => wl = w ∧ ∃ e', IsErr sp w E' e' ∧ e'.code = e0.code) (fun E' _ => erLen sp w E')
  case atStart => exact ⟨rfl, e0, he, rfl⟩
  case round =>
    obtain ⟨rfl, e', he', hcode⟩ := hrel
    cases he' with
    | sent d hd =>
      by_cases hab : d = c
      · subst hab
        have heq := run_eql_iface_ptr_same (P := Tryd.prog) wr (sp d) Tryd.underlying35 Tryd.underlying218 hi hcmp hj
        go_wp2
        go_ret
        exact ⟨by rw [← hcode]; simp [Er.code], rfl⟩
      · obtain ⟨ca, ta, ha⟩ := hL.blk d hd
        have hne : sp d ≠ sp c := fun h => hab (hL.inj d c hd hc h)
        have heq := run_eql_iface_ptr_other (P := Tryd.prog) wr Tryd.underlying35 Tryd.underlying218 hi hcmp hj (by rw [hjs]; decide) hne ha hb
        go_wp2
        go_ret
        exact ⟨by rw [← hcode]; simp [Er.code, hab], rfl⟩
    | «at» b p v e1 hblk he1 =>
      have hty := run_eql_iface_types (P := Tryd.prog) 137 218 (.pointer (some ⟨b, 0, none⟩)) (.pointer (some (sp c))) Tryd.underlying35 (by decide) wr
      have hlen := erLen_eq hL.inj he1
      have hlen0 := erLen_eq hL.inj (IsErr.at b p v e1 hblk he1)
      obtain ⟨t1, a1, rfl⟩ := he1.form
      have hcell : wr.cell? ⟨b, 1, none⟩ = some (.iface t1 (.pointer (some a1))) := by simp [World.cell?, hblk]
      have HC : Hid (IsErr sp wr (.iface t1 (.pointer (some a1))) e1) := he1
      clear he1 hb hblk
      go_wp2
      go_roundw
      case rel => exact ⟨trivial, e1, HC.out, by rw [← hcode]; rfl⟩
      case measure =>
        show erLen sp wr (.iface t1 (.pointer (some a1))) < _
        rw [hlen, hlen0]; exact Nat.lt_succ_self _
    | flt b p v e1 hblk he1 =>
      have hty := run_eql_iface_types (P := Tryd.prog) 142 218 (.pointer (some ⟨b, 0, none⟩)) (.pointer (some (sp c))) Tryd.underlying35 (by decide) wr
      have hlen := erLen_eq hL.inj he1
      have hlen0 := erLen_eq hL.inj (IsErr.flt b p v e1 hblk he1)
      obtain ⟨t1, a1, rfl⟩ := he1.form
      have hcell : wr.cell? ⟨b, 1, none⟩ = some (.iface t1 (.pointer (some a1))) := by simp [World.cell?, hblk]
      have HC : Hid (IsErr sp wr (.iface t1 (.pointer (some a1))) e1) := he1
      clear he1 hb hblk
      go_wp2
      go_roundw
      case rel => exact ⟨trivial, e1, HC.out, by rw [← hcode]; rfl⟩
      case measure =>
        show erLen sp wr (.iface t1 (.pointer (some a1))) < _
        rw [hlen, hlen0]; exact Nat.lt_succ_self _

set_option maxRecDepth 100000 in
set_option maxHeartbeats 1000000 in
theorem is_calls {sp : Nat → Addr} (c : Nat) (hc : isCode c) (w : World) (hL : Laid sp w) (E : Value) (e0 : Er) (he : IsErr sp w E e0) :
    Calls Tryd.prog 45 #[E, .iface 218 (.pointer (some (sp c)))] w fun e w' => e = .returned (.bool (e0.code == c)) ∧ w' = w := by
  have HL := Lib.hid (is_loop c hc w hL E e0 he)
  obtain ⟨t, a, rfl⟩ := he.form
  have h8 := @run_callFunc_extern Tryd.prog 86 _ Extern.ReflectliteType.typeOf Tryd.func86 (by kernel_rfl) (by kernel_rfl) (by kernel_rfl) (by kernel_rfl)
  have h32 := @run_callFunc_extern Tryd.prog 166 _ compFn Tryd.func166 (by kernel_rfl) (by kernel_rfl) (by kernel_rfl) (by kernel_rfl)
  have tT := isTypeOf
  have cT := isComparable
  clear hL he
  go_enter Tryd.func45, Tryd.ntmps45
  go_wp2_with (go_at_call 87; refine HL.out.mono ?_; rintro e w' ⟨rfl, rfl⟩)
  go_ret
  exact ⟨rfl, rfl⟩

theorem is_nil (v : Value) (w : World) :
    Calls Tryd.prog 45 #[.nilIface, .iface 218 v] w fun e w' => e = .returned (.bool false) ∧ w' = w := by
  have hn := run_eql_iface_nil_left (P := Tryd.prog) w 218 v Tryd.underlying35
  go_enter Tryd.func45, Tryd.ntmps45
  go_wp2
  go_ret
  exact ⟨rfl, rfl⟩

/-! ### fail.Code -/
theorem code_nil (w : World) :
    Calls Tryd.prog 40 #[.nilIface] w fun e w' => e = .returned (.int .i64 0) ∧ w' = w := by
  go_enter Tryd.func40, Tryd.ntmps40
  go_wp2
  go_ret
  exact ⟨rfl, rfl⟩

set_option maxHeartbeats 1000000 in
theorem code_calls {sp : Nat → Addr} (w : World) (hL : Laid sp w) (E : Value) (e0 : Er) (he : IsErr sp w E e0) :
    Calls Tryd.prog 40 #[E] w fun e w' => e = .returned (.int .i64 e0.code) ∧ w' = w := by
  have HE := Lib.hid he
  have HL := Lib.hid hL
  obtain ⟨t, a, rfl⟩ := he.form
  have HC := Lib.hid he.code
  clear he hL
  go_enter Tryd.func40, Tryd.ntmps40
  go_wp2
  go_loopw [3] (fun i wl => wl = w ∧ ∃ k : Nat, i = .int .i64 k ∧ 1 ≤ k ∧ k ≤ 19 ∧ k ≤ e0.code) (fun i _ => 19 - (intOf i).toNat)
  case atStart => exact ⟨rfl, 1, rfl, by omega, by omega, by have := HC.out; unfold isCode at this; omega⟩
  case round =>
    obtain ⟨rfl, k, rfl, h1, h2, h3⟩ := hrel
    by_cases h18 : k ≤ 18
    · have hk : isCode k := .inl ⟨h1, h18⟩
      have HK := Lib.hid hk
      clear hk
      by_cases hek : e0.code = k
      · have HI := Lib.hid (is_calls k HK.out wr HL.out _ e0 HE.out)
        rw [show (e0.code == k) = true by simp [hek]] at HI
        have HN := Lib.hid hek
        clear hek
        go_wp2_with (first | (go_at_call 47; refine (new_calls k HK.out _ HL.out).mono ?_; rintro e w' ⟨rfl, rfl⟩) | (go_at_call 45; refine HI.out.mono ?_; rintro e w' ⟨rfl, rfl⟩))
        go_ret
        exact ⟨by rw [HN.out]; rfl, rfl⟩
      · have HI := Lib.hid (is_calls k HK.out wr HL.out _ e0 HE.out)
        rw [show (e0.code == k) = false by simp [hek]] at HI
        go_wp2_with (first | (go_at_call 47; refine (new_calls k HK.out _ HL.out).mono ?_; rintro e w' ⟨rfl, rfl⟩) | (go_at_call 45; refine HI.out.mono ?_; rintro e w' ⟨rfl, rfl⟩))
        go_roundw
        case rel => exact ⟨trivial, k + 1, by go_num, by omega, by omega, by omega⟩
        case measure => simp [intOf]; omega
    · have h99 : e0.code = 99 := by have := HC.out; unfold isCode at this; omega
      have HN := Lib.hid h99
      clear h99
      go_wp2
      go_ret
      exact ⟨by rw [HN.out]; rfl, rfl⟩
end Go.Proofs.YtgjabbffpfhmjaaDoor
