/- From a row's listed variables to what the walks ask of the world; and a world for the witness. -/
import Derived.Test.YtgjabbffpfhmjaaDoorErr
import Derived.Test.YtgjabbffpfhmjaaDoorTie
import Derived.ProofKit
import Derived.OpenShut
import Derived.LaidMore
import Derived.LaidHandle
import Derived.Lay
import Derived.Lib.LaidTab
import Derived.Lib.LaidU8
import Derived.Stop.LaidErr
import Derived.Stop.Joined
import Derived.Deep.DeepHandedRow
namespace Go.Proofs.YtgjabbffpfhmjaaDoor
open Go.RowKit Go.Extern.Stop Go.Stop Go.Extern

/-! ### a variable of an integer type holds some integer -/
theorem int_of_shape {P : Program} {w : World} {g : Nat} {t : TypeId} {k : IntKind} {zero : Array Value} (h : w.ShapedOpen P) (hg : g < P.globals.size)
    (h0 : ((begin P (fun _ _ => 0) default).world.heap[g]?).bind Obj.row? = some (zero, t)) (hz : zero.size = 1)
    (hb : P.buildable t = true) (hc : P.cellTypes P.depth t = some [t]) (hu : P.underlying t = some (.int k)) : ∃ m, w.cell? ⟨g, 0, none⟩ = some (.int k m) := by
  obtain ⟨cs, hh, hs, hr⟩ := h.1 g zero t hg h0
  obtain ⟨ts, hts, _, hall⟩ := hr hb
  rw [hc] at hts
  cases hts
  have h1 : 0 < cs.size := by omega
  obtain ⟨u, hu', hok⟩ := hall 0 cs[0] (by simp [h1])
  have : u = t := by simpa using hu'.symm
  subst this
  have hcell : w.cell? ⟨g, 0, none⟩ = some cs[0] := by simp [World.cell?, hh, h1]
  rw [hcell]
  unfold Cell.ok at hok
  rw [hu] at hok
  cases hv : cs[0] <;> rw [hv] at hok <;> first | (simp at hok; done) | skip
  all_goals
    simp at hok
    try (obtain ⟨rfl, _⟩ := hok)
    exact ⟨_, rfl⟩

/-! ### the sentinels -/
def senName : Nat → String
  | 1 => "philtre/api.ErrForm"
  | 2 => "philtre/api.ErrShort"
  | 3 => "philtre/api.ErrLong"
  | 4 => "philtre/api.ErrRange"
  | 5 => "philtre/api.ErrKind"
  | 6 => "philtre/api.ErrTwice"
  | 7 => "philtre/api.ErrFull"
  | 8 => "philtre/api.ErrBadOp"
  | 9 => "philtre/api.ErrBadBatch"
  | 10 => "philtre/api.ErrStaleBatch"
  | 11 => "philtre/api.ErrTooManyReaders"
  | 12 => "philtre/api.ErrNoWatcher"
  | 13 => "philtre/api.ErrTooManyWatchers"
  | 14 => "philtre/api.ErrOverflow"
  | 15 => "philtre/api.ErrScript"
  | 16 => "philtre/api.ErrNone"
  | 17 => "philtre/api.ErrFreed"
  | 18 => "philtre/api.ErrBounds"
  | _ => "philtre/api.ErrUnknown"
def senD (t : List UInt8) : DataW Unit := .iface "*errors.errorString" (.ptr (.agg [.lit (.string t)]))
theorem code_mem {c : Nat} (hc : isCode c) : c ∈ [1, 2, 3, 4, 5, 6, 7, 8, 9, 10, 11, 12, 13, 14, 15, 16, 17, 18, 99] := by
  unfold isCode at hc
  simp only [List.mem_cons, List.mem_nil_iff, or_false]
  omega
theorem code_cases {p : Nat → Prop} (h : ∀ c ∈ [1, 2, 3, 4, 5, 6, 7, 8, 9, 10, 11, 12, 13, 14, 15, 16, 17, 18, 99], p c) : ∀ c, isCode c → p c := fun c hc => h c (code_mem hc)
def senText : Nat → List UInt8
  | 1 => [102, 111, 114, 109]
  | 2 => [115, 104, 111, 114, 116]
  | 3 => [108, 111, 110, 103]
  | 4 => [114, 97, 110, 103, 101]
  | 5 => [107, 105, 110, 100]
  | 6 => [116, 119, 105, 99, 101]
  | 7 => [102, 117, 108, 108]
  | 8 => [98, 97, 100, 32, 111, 112]
  | 9 => [98, 97, 100, 32, 98, 97, 116, 99, 104]
  | 10 => [115, 116, 97, 108, 101, 32, 98, 97, 116, 99, 104]
  | 11 => [116, 111, 111, 32, 109, 97, 110, 121, 32, 114, 101, 97, 100, 101, 114, 115]
  | 12 => [110, 111, 32, 119, 97, 116, 99, 104, 101, 114]
  | 13 => [116, 111, 111, 32, 109, 97, 110, 121, 32, 119, 97, 116, 99, 104, 101, 114, 115]
  | 14 => [111, 118, 101, 114, 102, 108, 111, 119]
  | 15 => [115, 99, 114, 105, 112, 116]
  | 16 => [110, 111, 110, 101]
  | 17 => [102, 114, 101, 101, 100]
  | 18 => [98, 111, 117, 110, 100, 115]
  | _ => [117, 110, 107, 110, 111, 119, 110]
/-- Where a sentinel stands among the listed ones. -/
def senIx (c : Nat) : Nat := if c = 99 then 18 else c - 1
theorem sens_of {L : List (String × DataW Unit)} (k : Nat) (h : ([1, 2, 3, 4, 5, 6, 7, 8, 9, 10, 11, 12, 13, 14, 15, 16, 17, 18, 99].map fun c => L[k + senIx c]?) = [1, 2, 3, 4, 5, 6, 7, 8, 9, 10, 11, 12, 13, 14, 15, 16, 17, 18, 99].map fun c => some (senName c, senD (senText c))) :
    ∀ c, isCode c → ∃ t, (senName c, senD t) ∈ L := fun c hc => ⟨senText c, List.mem_of_getElem? (List.map_inj_left.1 h c (code_mem hc))⟩
theorem sen_global : ∀ c, isCode c → Tryd.prog.globalNamed (senName c) = some (senVar c) ∧ (Tryd.prog.globals[senVar c]?).map (·.type) = some 35 :=
  code_cases fun c hc => by
    simp only [List.mem_cons, List.mem_nil_iff, or_false] at hc
    rcases hc with rfl | rfl | rfl | rfl | rfl | rfl | rfl | rfl | rfl | rfl | rfl | rfl | rfl | rfl | rfl | rfl | rfl | rfl | rfl <;> exact ⟨by kernel_rfl, by kernel_rfl⟩
theorem es_star : "*" ++ "errors.errorString" = "*errors.errorString" := by decide
theorem es_row (u : TypeId) (h : Tryd.prog.typeName? 3 u = some "*errors.errorString") : u = 218 :=
  typeName_ptr_named (nm := "errors.errorString") (by rw [es_star]; kernel_rfl) (by kernel_rfl) (by decide) u (by rw [es_star]; exact h)

set_option maxRecDepth 100000 in
/-- What a list of variables says of one of them. -/
theorem sen_in {W : World} {c : Nat} (hc : isCode c) {t : List UInt8} : ∀ {l : List (String × DataW Unit)} {ps : List MemPlace}, DataW.LaidVars Tryd.prog W l ps →
    (∀ b off, MemPlace.cell b off ∈ ps → (∃ c t, W.heap[b]? = some (.cells c t (0, 0))) ∧ ∀ u v, W.cell? ⟨b, off, none⟩ = some (.iface u v) → Value.okWide Tryd.prog W .any 0 u v) →
    (senName c, senD t) ∈ l → ∃ a : Addr, W.cell? ⟨senVar c, 0, none⟩ = some (.iface 218 (.pointer (some a))) ∧ a.spot = none ∧ MemPlace.cell a.block a.off ∈ ps ∧ ∃ ca ta, W.heap[a.block]? = some (.cells ca ta (0, 0))
  | [], _, _, _, hm => by cases hm
  | (n, d) :: r, ps, h, hrows, hm => by
    obtain ⟨g, ty, cs, fuel, p, q, h1, h2, h3, h4, h5, rfl⟩ := h
    rcases List.mem_cons.1 hm with e | e
    · cases e
      obtain ⟨hg, ht⟩ := sen_global c hc
      obtain rfl := Option.some.inj (hg.symm.trans h1)
      obtain rfl := Option.some.inj (ht.symm.trans h2)
      obtain ⟨l0⟩ := cs
      have ok0 : ∀ u v, l0 = [.iface u v] → Value.okWide Tryd.prog W .any 0 u v := fun u v e => by
        subst e
        exact (hrows (senVar c) 0 (by simp [MemPlace.row])).2 u v (by simpa using World.var?_cell h1 h3 0)
      obtain ⟨a, s, rfl, hcell, _, _, rfl⟩ := errorString_of_trod Tryd.underlying35 es_row Tryd.underlying218 Tryd.underlying237 rfl rfl Tryd.underlying9 (by kernel_rfl) (by kernel_rfl) h4 ok0
      obtain ⟨ca, ta, hb⟩ := (hrows a.block a.off (by simp [MemPlace.row])).1
      exact ⟨a, by simpa using World.var?_cell h1 h3 0, World.cell?_spot hcell, by simp [MemPlace.row], ca, ta, hb⟩
    · obtain ⟨a, x1, x2, x3, x4⟩ := sen_in hc h5 (fun b off hp => hrows b off (by simp [hp])) e
      exact ⟨a, x1, x2, by simp [x3], x4⟩
theorem sen_name_inj {c d : Nat} (hc : isCode c) (hd : isCode d) (h : senName c = senName d) : c = d := by
  have : ∀ c ∈ [1, 2, 3, 4, 5, 6, 7, 8, 9, 10, 11, 12, 13, 14, 15, 16, 17, 18, 99], ∀ d ∈ [1, 2, 3, 4, 5, 6, 7, 8, 9, 10, 11, 12, 13, 14, 15, 16, 17, 18, 99], senName c = senName d → c = d := by decide +kernel
  exact this c (code_mem hc) d (code_mem hd) h
theorem sen_apart {W : World} {c d : Nat} (hc : isCode c) (hd : isCode d) (hne : c ≠ d) {t u : List UInt8} : ∀ {l : List (String × DataW Unit)} {ps : List MemPlace}, DataW.LaidVars Tryd.prog W l ps → ps.Nodup →
    (∀ b off, MemPlace.cell b off ∈ ps → (∃ c t, W.heap[b]? = some (.cells c t (0, 0))) ∧ ∀ u v, W.cell? ⟨b, off, none⟩ = some (.iface u v) → Value.okWide Tryd.prog W .any 0 u v) →
    (senName c, senD t) ∈ l → (senName d, senD u) ∈ l → ∀ a b : Addr, W.cell? ⟨senVar c, 0, none⟩ = some (.iface 218 (.pointer (some a))) →
    W.cell? ⟨senVar d, 0, none⟩ = some (.iface 218 (.pointer (some b))) → a ≠ b
  | [], _, _, _, _, hm, _, _, _, _, _ => by cases hm
  | x :: r, ps, h, hnd, hrows, hm, hk, a, b, ha, hb => by
    have hall := h
    obtain ⟨g, ty, cs, fuel, p, q, h1, h2, h3, h4, h5, rfl⟩ := h
    have hrows' : ∀ b off, MemPlace.cell b off ∈ q → (∃ c t, W.heap[b]? = some (.cells c t (0, 0))) ∧ ∀ u v, W.cell? ⟨b, off, none⟩ = some (.iface u v) → Value.okWide Tryd.prog W .any 0 u v := fun b off hp => hrows b off (by simp [hp])
    have hrow1 : ∀ b off, MemPlace.cell b off ∈ MemPlace.row ⟨g, 0, none⟩ cs.size ++ p ++ [] → (∃ c t, W.heap[b]? = some (.cells c t (0, 0))) ∧ ∀ u v, W.cell? ⟨b, off, none⟩ = some (.iface u v) → Value.okWide Tryd.prog W .any 0 u v := fun b off hp => hrows b off (by
      rw [List.append_nil] at hp
      exact List.mem_append_left _ hp)
    have hone : DataW.LaidVars Tryd.prog W [x] (MemPlace.row ⟨g, 0, none⟩ cs.size ++ p ++ []) := ⟨g, ty, cs, fuel, p, [], h1, h2, h3, h4, rfl, rfl⟩
    have apart : ∀ z, z ∈ MemPlace.row ⟨g, 0, none⟩ cs.size ++ p ++ [] → z ∈ q → False := fun z h1 h2 => by
      rw [List.append_nil] at h1
      exact (List.nodup_append.1 hnd).2.2 z h1 z h2 rfl
    have one : ∀ {c : Nat} {t : List UInt8} {a : Addr}, isCode c → (senName c, senD t) = x → W.cell? ⟨senVar c, 0, none⟩ = some (.iface 218 (.pointer (some a))) → MemPlace.cell a.block a.off ∈ MemPlace.row ⟨g, 0, none⟩ cs.size ++ p ++ [] := fun {c t a} hc e ha => by
      obtain ⟨a', x1, _, x3, _⟩ := sen_in (t := t) hc hone hrow1 (by rw [e]; exact List.mem_singleton.2 rfl)
      rw [ha] at x1
      cases x1
      exact x3
    have two : ∀ {c : Nat} {t : List UInt8} {a : Addr}, isCode c → (senName c, senD t) ∈ r → W.cell? ⟨senVar c, 0, none⟩ = some (.iface 218 (.pointer (some a))) → MemPlace.cell a.block a.off ∈ q := fun {c t a} hc e ha => by
      obtain ⟨a', x1, _, x3, _⟩ := sen_in (t := t) hc h5 hrows' e
      rw [ha] at x1
      cases x1
      exact x3
    rcases List.mem_cons.1 hm with e | e <;> rcases List.mem_cons.1 hk with e' | e'
    · exact absurd (sen_name_inj hc hd (by rw [← e] at e'; exact (Prod.mk.inj e').1.symm)) hne
    · rintro rfl
      exact apart _ (one hc e ha) (two hd e' hb)
    · rintro rfl
      exact apart _ (one hd e' hb) (two hc e ha)
    · exact sen_apart hc hd hne h5 (List.nodup_append.1 hnd).2.1 hrows' e e' a b ha hb

/-- Where a sentinel's variable points. -/
def senAt (W : World) (c : Nat) : Addr := match W.cell? ⟨senVar c, 0, none⟩ with
  | some (.iface _ (.pointer (some a))) => a
  | _ => ⟨0, 0, none⟩

theorem ety_global : Tryd.prog.globalNamed "errors.errorType" = some 19 := by kernel_rfl
theorem ety_rt : (Tryd.prog.cutTypes.find? (·.1 == "internal/reflectlite.rtype")).map (·.2) = some 166 := by kernel_rfl
theorem ety_row : ((List.range Tryd.prog.types.size).filter fun t => Tryd.prog.rowNamed t [101, 114, 114, 111, 114]) = [35] := by kernel_rfl
theorem ety_hand : typeHandle Tryd.prog 35 = .pointer (some ⟨26, 35, none⟩) := by kernel_rfl
def etyD : String × DataW Unit := ("errors.errorType", .iface "internal/reflectlite.rtype" (.agg [.ptr (.lit (.string [101, 114, 114, 111, 114]))]))

/-- All of it. -/
theorem laid_of {W : World} {L : List (String × DataW Unit)} (h : laidMetH Tryd.prog L W) (he : (L.filter fun x => x.2.handleName?.isSome) = [etyD])
    (hs : ∀ c, isCode c → ∃ t, (senName c, senD t) ∈ L.filter fun x => x.2.handleName?.isNone) : Laid (senAt W) W := by
  unfold laidMetH at h
  rw [he] at h
  obtain ⟨⟨ps, hv, hnd, hrows⟩, hh⟩ := h
  have at_ : ∀ c, isCode c → W.cell? ⟨senVar c, 0, none⟩ = some (.iface 218 (.pointer (some (senAt W c)))) ∧ ∃ ca ta, W.heap[(senAt W c).block]? = some (.cells ca ta (0, 0)) := fun c hc => by
    obtain ⟨t, ht⟩ := hs c hc
    obtain ⟨a, x1, x2, x3, x4⟩ := sen_in hc hv hrows ht
    have : senAt W c = a := by unfold senAt; rw [x1]
    rw [this]
    exact ⟨x1, x4⟩
  refine ⟨fun c hc => (at_ c hc).1, fun c hc => (at_ c hc).2, fun c d hc hd e => ?_, ?_⟩
  · by_cases hne : c = d
    · exact hne
    · obtain ⟨t, ht⟩ := hs c hc
      obtain ⟨u, hu⟩ := hs d hd
      exact absurd e (sen_apart hc hd hne hv hnd hrows ht hu _ _ (at_ c hc).1 (at_ d hd).1)
  · obtain ⟨name, u, ty, e1, e2, e3, e4, e5⟩ := hh _ (List.mem_singleton.2 rfl)
    have en : name = [101, 114, 114, 111, 114] := (Option.some.inj e1).symm
    subst en
    obtain rfl := Option.some.inj (ety_rt.symm.trans e2)
    have hm : ty ∈ (List.range Tryd.prog.types.size).filter fun t => Tryd.prog.rowNamed t [101, 114, 114, 111, 114] := List.mem_filter.2 ⟨List.mem_range.2 e3, e4⟩
    rw [ety_row] at hm
    obtain rfl := List.mem_singleton.1 hm
    rw [ety_hand] at e5
    simpa using World.var?_cell ety_global e5 0
end Go.Proofs.YtgjabbffpfhmjaaDoor
