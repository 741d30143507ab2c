/- 'AddrCovers' answers true, whatever it is handed, and each argument reads as it read. No condition. -/
import Derived.Test.YtohhhodkmnpjpaaLCovL
namespace Go.Proofs.Ytohhhodkmnpjpaa
open Go.Am Go.ChangeShapes Go.WideShapes Go.ChangeAt Go.RowKit Go.Joins

theorem Try.own : ownKnob Try.prog.godebug = none := by kernel_rfl

section
variable {H : Type} {enc : TypeId × Value → H} {w : World} {base : Nat} {spare : Nat → Bool} {held : Bool}
abbrev pfx (a b : Int) : Value := .agg #[.int .u32 a, .int .i64 b]
theorem open_pfx {r : Reach} {b0 : Nat} {v : Value} {d : DataW H} {p : List MemPlace} (hv : Value.okWide Try.prog w r b0 25 v) (h : DataW.Trod enc Try.prog w base spare held 25 v d p) :
    ∃ a b, v = pfx a b ∧ d = .agg [.lit (.int .u32 a), .lit (.int .i64 b)] ∧ p = [] ∧ (Lit.int .u32 a).wf = true ∧ (Lit.int .i64 b).wf = true := by
  obtain ⟨v0, v1, y0, y1, n, rfl, rfl, rfl, t0, t1⟩ := open_agg2 Try.underlying25 (by kernel_rfl) (by kernel_rfl) hv h
  obtain ⟨a, ha, rfl, wa⟩ := DataW.trod_int Try.underlying23 t0
  obtain ⟨b, hb, rfl, wb⟩ := DataW.trod_int Try.underlying3 t1
  simp only [List.cons.injEq, and_true] at ha hb
  subst ha; subst hb
  exact ⟨a, b, rfl, rfl, rfl, wa, wb⟩
theorem shut_pfx {a b : Int} (wa : (Lit.int .u32 a).wf = true) (wb : (Lit.int .i64 b).wf = true) : DataW.Trod enc Try.prog w base spare held 25 (pfx a b) (.agg [.lit (.int .u32 a), .lit (.int .i64 b)]) [] :=
  shut_agg2 (y0 := (.lit (.int .u32 a), [])) (y1 := (.lit (.int .i64 b), [])) Try.underlying25 (by kernel_rfl) (by kernel_rfl) ⟨1, trod_int_mk 0 Try.underlying23 wa⟩ ⟨1, trod_int_mk 0 Try.underlying3 wb⟩
end
theorem rel_pfx {w : World} {Im : Nat → Prop} {θ : Th} (a b : Int) : VRel Try.prog w Im θ (.agg [.int .u32 a, .int .i64 b]) (pfx a b) := by
  refine .agg rfl (fun i v u hv hu => ?_)
  match i, hv, hu with
  | 0, hv, hu => cases hv; cases hu; exact .int
  | 1, hv, hu => cases hv; cases hu; exact .int
theorem lrel_nil {w : World} {Im : Nat → Prop} {θ : Th} : LRel Try.prog w Im θ [] [] := ⟨rfl, fun i v u h => by simp at h⟩
theorem lrel_cons {w : World} {Im : Nat → Prop} {θ : Th} {v : SV} {u : Value} {vs : List SV} {us : List Value} (h : VRel Try.prog w Im θ v u) (hs : LRel Try.prog w Im θ vs us) : LRel Try.prog w Im θ (v :: vs) (u :: us) := by
  refine ⟨by simp [hs.len], fun i x y hx hy => ?_⟩
  cases i with
  | zero => simp at hx hy; subst hx; subst hy; exact h
  | succ i => simp at hx hy; exact hs.at_ i x y hx hy

set_option maxRecDepth 100000 in
theorem addrCovers_lifted (os : Os) (started : os.Started) (H : Type) (enc : TypeId × Value → H) :
    ReturnsInHanded {} Try.checked os 3 .any (Rows.addrCoversSpec.pre6 enc Try.prog Try.f3 Rows.addrCoversRow.domain false) (Rows.addrCoversSpec.post enc Try.prog Try.f3 false true false false) := by
  refine returnsInHanded_of_change (C := Try.checked) Try.own started (by kernel_rfl) Try.func3
    (ChangeSpec.witness6 (enc := enc) (C := Try.checked) false ⟨#[], #[pfx 0 0, pfx 0 0, pfx 0 0, .int .u32 0], []⟩ 8 (by kernel_rfl) (by kernel_rfl) (by kernel_rfl) (by kernel_rfl)) ?_
  intro W base args ds gs before hval0 hW hcnd _
  have hval : ∀ (j : Nat) t v, Try.f3.params[j]? = some t → args[j]? = some v → Value.okWide Try.prog W .any base t v := hval0
  have hW' := hW
  obtain ⟨p, q, hA0, hV, rfl, hfz, hnd⟩ := hW
  have hA : DataW.TrodAll enc Try.prog W 0 (fun _ => true) true Try.f3.params.toList args.toList ds p := hA0
  rw [Try.params3] at hA hval
  obtain ⟨v0, v1, v2, v3, d0, d1, d2, d3, p0, p1, p2, p3, rfl, rfl, rfl, h0, h1, h2, h3⟩ := trodAll_four hA
  obtain ⟨rfl, rfl⟩ := trodVars_none hV
  obtain ⟨a, b, rfl, rfl, rfl, wa, wb⟩ := open_pfx (hval 0 25 v0 rfl rfl) h0
  obtain ⟨c, d, rfl, rfl, rfl, wc, wd⟩ := open_pfx (hval 1 25 v1 rfl rfl) h1
  obtain ⟨e, f, rfl, rfl, rfl, we, wf⟩ := open_pfx (hval 2 25 v2 rfl rfl) h2
  obtain ⟨x, rfl, rfl, rfl, wx⟩ := open_int Try.underlying23 (hval 3 23 v3 rfl rfl) h3
  clear hA0 hval0
  simp only [List.append_nil] at hW'
  refine (pure_call law_k (law_true a b c d e f x) (lrel_cons (rel_pfx a b) (lrel_cons (rel_pfx c d) (lrel_cons (rel_pfx e f) (lrel_cons .int lrel_nil))))).mono ?_
  rintro o W' ⟨u, θ', Im', rfl, hu, hk, hf⟩
  cases hu
  exact ⟨_, rfl, post_kept (pa := []) (pv := []) hW' (fun _ _ _ => trodAll_mk1 (shut_bool Try.underlying4 true)) (fun sp _ => trodAll_mk4 (shut_pfx wa wb) (shut_pfx wc wd) (shut_pfx we wf) (shut_int Try.underlying23 wx)) (fun _ _ => rfl) rfl
    (hk _) hf (ok_one (by kernel_rfl) rfl (okWide_bool_mk Try.underlying4 true))⟩

theorem addrCovers_holds : Rows.AddrCoversSaid :=
  OpenClaim.holds_of_wide 3 Try.f3 rfl rfl rfl rfl rfl rfl rfl ⟨rfl, rfl, rfl, rfl, rfl⟩ rfl rfl rfl rfl rfl (by kernel_rfl) Try.func3 (by kernel_rfl)
    (of_decide_eq_true (by kernel_rfl)) (by unfold Func.isWrapper; first | (rw [if_pos (by decide +kernel)]; kernel_rfl) | (rw [if_neg (by decide +kernel)]; exact ⟨rfl, rfl⟩))
    (fun os started H enc _ => addrCovers_lifted os started H enc)
end Go.Proofs.Ytohhhodkmnpjpaa
#print axioms Go.Proofs.Ytohhhodkmnpjpaa.addrCovers_holds
