/- 'AddrOrders' answers true, whatever it is handed, and each argument reads as it read. No condition. -/
import Derived.Test.YtohhhodkmnpjpaaLOrdL
import Derived.Test.YtohhhodkmnpjpaaLRow
namespace Go.Proofs.Ytohhhodkmnpjpaa
open Go.Am Go.ChangeShapes Go.WideShapes Go.ChangeAt Go.RowKit Go.Joins

theorem ord_true' (a b c d e f : Int) : ∀ (xs ys zs : List Int), xs.length = 10 → ys.length = 10 → zs.length = 10 →
    crun (bodyS Try.prog κo Try.f4 [.agg [.int .u32 a, .int .i64 b], .agg [.int .u32 c, .int .i64 d], .agg [.int .u32 e, .int .i64 f], .agg (xs.map (SV.int .u8)), .agg (ys.map (SV.int .u8)), .agg (zs.map (SV.int .u8))] []) = some (.bool true, [])
  | [x0, x1, x2, x3, x4, x5, x6, x7, x8, x9], [y0, y1, y2, y3, y4, y5, y6, y7, y8, y9], [z0, z1, z2, z3, z4, z5, z6, z7, z8, z9], _, _, _ => ord_true a b c d e f x0 x1 x2 x3 x4 x5 x6 x7 x8 x9 y0 y1 y2 y3 y4 y5 y6 y7 y8 y9 z0 z1 z2 z3 z4 z5 z6 z7 z8 z9

set_option maxRecDepth 100000 in
theorem addrOrders_lifted (os : Os) (started : os.Started) (H : Type) (enc : TypeId × Value → H) :
    ReturnsInHanded {} Try.checked os 4 .any (Rows.addrOrdersSpec.pre6 enc Try.prog Try.f4 Rows.addrOrdersRow.domain false) (Rows.addrOrdersSpec.post enc Try.prog Try.f4 false true false false) := by
  refine returnsInHanded_of_change (C := Try.checked) Try.own started (by kernel_rfl) Try.func4
    (ChangeSpec.witness6 (enc := enc) (C := Try.checked) false ⟨#[], #[pfx 0 0, pfx 0 0, pfx 0 0, esi [0, 0, 0, 0, 0, 0, 0, 0, 0, 0], esi [0, 0, 0, 0, 0, 0, 0, 0, 0, 0], esi [0, 0, 0, 0, 0, 0, 0, 0, 0, 0]], []⟩ 8 (by kernel_rfl) (by kernel_rfl) (by kernel_rfl) (by kernel_rfl)) ?_
  intro W base args ds gs before hval0 hW hcnd _
  have hval : ∀ (j : Nat) t v, Try.f4.params[j]? = some t → args[j]? = some v → Value.okWide Try.prog W .any base t v := hval0
  have hW' := hW
  obtain ⟨p, q, hA0, hV, rfl, hfz, hnd⟩ := hW
  have hA : DataW.TrodAll enc Try.prog W 0 (fun _ => true) true Try.f4.params.toList args.toList ds p := hA0
  rw [Try.params4] at hA hval
  obtain ⟨v0, vs0, d0, ds0, p0, q0, hargs, rfl, rfl, h0, hA⟩ := trodAll_cons hA
  obtain ⟨v1, vs1, d1, ds1, p1, q1, rfl, rfl, rfl, h1, hA⟩ := trodAll_cons hA
  obtain ⟨v2, vs2, d2, ds2, p2, q2, rfl, rfl, rfl, h2, hA⟩ := trodAll_cons hA
  obtain ⟨v3, vs3, d3, ds3, p3, q3, rfl, rfl, rfl, h3, hA⟩ := trodAll_cons hA
  obtain ⟨v4, vs4, d4, ds4, p4, q4, rfl, rfl, rfl, h4, hA⟩ := trodAll_cons hA
  obtain ⟨v5, vs5, d5, ds5, p5, q5, rfl, rfl, rfl, h5, hA⟩ := trodAll_cons hA
  obtain ⟨rfl, rfl, rfl⟩ := trodAll_nil hA
  obtain rfl : args = #[v0, v1, v2, v3, v4, v5] := Array.ext' hargs
  obtain ⟨rfl, rfl⟩ := trodVars_none hV
  obtain ⟨a, b, rfl, rfl, rfl, wa, wb⟩ := open_pfx (hval 0 25 v0 rfl rfl) h0
  obtain ⟨c, d, rfl, rfl, rfl, wc, wd⟩ := open_pfx (hval 1 25 v1 rfl rfl) h1
  obtain ⟨e, f, rfl, rfl, rfl, we, wf⟩ := open_pfx (hval 2 25 v2 rfl rfl) h2
  obtain ⟨xs, lx, rfl, rfl, rfl, wx⟩ := open_esi (hval 3 34 v3 rfl rfl) h3
  obtain ⟨ys, ly, rfl, rfl, rfl, wy⟩ := open_esi (hval 4 34 v4 rfl rfl) h4
  obtain ⟨zs, lz, rfl, rfl, rfl, wz⟩ := open_esi (hval 5 34 v5 rfl rfl) h5
  clear hA0 hval0
  simp only [List.append_nil] at hW'
  refine (pure_call ord_k (ord_true' a b c d e f xs ys zs lx ly lz) (lrel_cons (rel_pfx a b) (lrel_cons (rel_pfx c d) (lrel_cons (rel_pfx e f) (lrel_cons (rel_esi xs) (lrel_cons (rel_esi ys) (lrel_cons (rel_esi zs) lrel_nil))))))).mono ?_
  rintro o W' ⟨u, θ', Im', rfl, hu, hk, hf⟩
  cases hu
  exact ⟨_, rfl, post_kept (pa := []) (pv := []) hW' (fun _ _ _ => trodAll_mk1 (shut_bool Try.underlying4 true)) (fun sp _ => ⟨[], [], shut_pfx wa wb, ⟨[], [], shut_pfx wc wd, ⟨[], [], shut_pfx we wf, ⟨[], [], shut_esi lx wx, ⟨[], [], shut_esi ly wy, ⟨[], [], shut_esi lz wz, rfl, rfl⟩, rfl⟩, rfl⟩, rfl⟩, rfl⟩, rfl⟩) (fun _ _ => rfl) rfl
    (hk _) hf (ok_one (by kernel_rfl) rfl (okWide_bool_mk Try.underlying4 true))⟩

theorem addrOrders_holds : Rows.AddrOrdersSaid :=
  OpenClaim.holds_of_wide 4 Try.f4 rfl rfl rfl rfl rfl rfl rfl ⟨rfl, rfl, rfl, rfl, rfl⟩ rfl rfl rfl rfl rfl (by kernel_rfl) Try.func4 (by kernel_rfl)
    (of_decide_eq_true (by kernel_rfl)) (by unfold Func.isWrapper; first | (rw [if_pos (by decide +kernel)]; kernel_rfl) | (rw [if_neg (by decide +kernel)]; exact ⟨rfl, rfl⟩))
    (fun os started H enc _ => addrOrders_lifted os started H enc)
end Go.Proofs.Ytohhhodkmnpjpaa
#print axioms Go.Proofs.Ytohhhodkmnpjpaa.addrOrders_holds
