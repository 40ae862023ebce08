import Derived.Test.YtkbjcfabbapnpaaDr
import Derived.Test.YtkbjcfabbapnpaaLk
import Derived.Test.YtkbjcfabbapnpaaPwCur
/- The big laws' helpers. -/
namespace Go.Proofs.Ytkbjcfabbapnpaa
open Go Go.RowKit Go.Pw
theorem en_l_sameInts : Entry Try.prog 10 := ⟨_, Try.func10, by kernel_rfl, rfl⟩
theorem sameInts_c (sa sb : Value) (a b : List Int) (w : World) (ha : Arr w sa (ints a)) (hb : Arr w sb (ints b)) :
    Pure Try.prog 10 #[sa, sb] w (.bool (decide (a = b))) := by
  refine pure_enter (args := [_, _]) en_l_sameInts Try.func10 rfl Try.ntmps10 rfl ?_
  have h1 := ha.len
  have h2 := hb.len
  repeat' (first | apply pwp_seq | apply pwp_region | (apply px_run; (first | (apply opv_move; first | rfl) | (apply opv_assign; first | exact hid_int rfl | exact hid_bool rfl) | (apply opv_neq <;> rfl) | (apply opv_len_ints el_int; rfl; (first | exact rd_old (by assumption)))); rfl; rfl) | apply px_nil | apply qseq_normal | apply qseq_ret | apply pwp_block | apply pwp_skip | apply pwp_ret | (apply pwp_cond_ndec; rfl; all_goals (intro hc; try (first | fail))))
  · refine qbody_ret1 (v := .bool _) rfl rfl ⟨ret_false rfl fun h => hc (by rw [h]), fun _ h => h.below⟩
  have hl : a.length = b.length := by omega
  refine pwp_loop [(4,5), (11,25)] (fun k : Nat => [(5, .int .i64 (k : Int))]) (fun k => Cl [] w []) (fun k => k ≤ a.length ∧ ∀ i, i < k → a.getD i 0 = b.getD i 0) (fun k => a.length - k) 0
    ⟨rfl, trivial⟩ ⟨Nat.zero_le _, fun i hi => by omega⟩ (fun _ h => h) (fun J k hk => ?_)
  obtain ⟨hk, he⟩ := hk
  by_cases hlt : k < a.length
  · repeat' (first | apply pwp_seq | apply pwp_region | (apply px_run; (first | (apply opv_move; first | exact hid_int rfl | rfl) | (apply opv_assign; first | exact hid_int rfl | exact hid_bool rfl) | (apply opv_lss <;> rfl) | (apply opv_neq <;> rfl) | (apply opv_add_in; rfl; rfl; omega) | (apply opv_load_ints sc_int; rfl; (first | exact rd_old (by assumption)); (first | omega)) | (apply opv_index_nat (vs := ints _) el_int; rfl; rfl; (first | exact rd_old (by assumption)); (first | (simp only [ints_length]; omega))) | (apply opv_len_ints el_int; rfl; (first | exact rd_old (by assumption)))); rfl; rfl) | apply px_nil | apply qseq_normal | apply qseq_ret | apply pwp_block | apply qblock_normal | apply qblock_ret | apply pwp_skip | apply pwp_ret | apply qround_ret | (apply pwp_region_mix; kernel_rfl; decide +kernel; exact Cl.stable _ _ _) | (apply pwp_cond_ndec; rfl; all_goals (intro hc; try (first | fail))) | (apply pwp_cond_dec; rfl; all_goals (intro hc; try (first | (exfalso; omega)))))
    · refine qbody_ret1 (v := .bool _) rfl rfl ⟨ret_false rfl fun h => hc (by rw [h]), fun _ h => h.below⟩
    · refine qround_normal ?_ ⟨k + 1, ⟨rfl, trivial⟩, ⟨by omega, fun i hi => ?_⟩, by omega, fun _ h => h⟩
      · repeat (first | exact same_refl | refine same_upd rfl ?_ | refine same_junk rfl ?_)
      · by_cases hik : i < k
        · exact he i hik
        · obtain rfl : i = k := by omega
          exact hc
  · repeat' (first | apply pwp_seq | apply pwp_region | (apply px_run; (first | (apply opv_move; first | exact hid_int rfl | rfl) | (apply opv_assign; first | exact hid_bool rfl) | (apply opv_lss <;> rfl) | (apply opv_len_ints el_int; rfl; (first | exact rd_old (by assumption)))); rfl; rfl) | apply px_nil | apply qseq_normal | apply qseq_exit | (apply qblock_exit_same; rfl) | apply pwp_exit | apply pwp_ret | apply qround_exit | (apply pwp_cond_dec; rfl; all_goals (intro hc; try (first | (exfalso; omega)))))
    refine qbody_ret1 (v := .bool _) rfl rfl ⟨ret_true rfl (eq_of_getD hl fun i hi => he i (by omega)), fun _ h => h.below⟩
theorem en_l_big : Entry Try.prog 4 := ⟨_, Try.func4, by kernel_rfl, rfl⟩
theorem big_c (cv : Value) (l : List Int) (w : World) (hr : Arr w cv (byts l)) :
    Pure Try.prog 4 #[cv] w (.bool (decide (1048576 < (l.length : Int)))) := by
  refine pure_enter (args := [_]) en_l_big Try.func4 rfl Try.ntmps4 rfl ?_
  have hbl : (byts l).length = l.length := byts_length l
  have rd : ∀ objs, Rd (Cl [] w objs) cv (byts l) := fun objs => ⟨fun w' hw => hw.arr hr⟩
  repeat' (first | apply pwp_seq | apply pwp_region | (apply px_run; (first | (apply opv_len el_byteD; rfl; exact rd _) | (apply opv_move; first | rfl) | (apply opv_assign; first | exact hid_bool rfl) | (apply opv_gtr <;> rfl)); rfl; rfl) | apply px_nil | apply qseq_normal | apply pwp_ret)
  refine qbody_ret1 (v := .bool _) rfl rfl ⟨by rw [hbl], fun _ h => h.below⟩
def atF (l : List Int) (i : Nat) : Int := if i < l.length then l.getD i 0 else ((i : Int) * 37 + (l.length : Int) * 11).tmod 256
theorem atF_in {l : List Int} (h : ∀ x ∈ l, 0 ≤ x ∧ x ≤ 255) (i : Nat) : 0 ≤ atF l i := by
  unfold atF; split
  · rename_i hi
    exact (h _ (by simp [List.getD, hi])).1
  · exact (tmod_in (by omega) (by omega)).1
end Go.Proofs.Ytkbjcfabbapnpaa
/- Bytes that came in: their reading. -/
namespace Go.Pw
open Go Go.RowKit Go.ChangeShapes Go.WideShapes Go.ChangeAt Go.Joins
variable {P : Program} {H : Type} {enc : TypeId × Value → H}
theorem byts_of_trod {t e : TypeId} {base : Nat} {spare : Nat → Bool} {held : Bool} {w : World} {fuel : Nat} {v : Value} {x : DataW H × List MemPlace} (ht : P.underlying t = some (.slice e)) (he : P.underlying e = some (.int .u8)) (hc : P.cellsOf e = 1)
    (h : DataW.trod enc P w base spare held fuel t [v] = some x) : ∃ l : List Int, Arr w v (byts l) ∧ ∀ n ∈ l, 0 ≤ n ∧ n ≤ 255 := by
  rcases open_ints ht he hc h with ⟨h1, _⟩ | ⟨a, len, cap, zs, h1, _, h2, h3, h4, _, h5, h6⟩
  · obtain rfl := (List.cons.inj h1).1
    exact ⟨[], ⟨rfl, .inl ⟨rfl, none, 0, rfl, fun _ => rfl⟩⟩, fun n hn => (List.not_mem_nil hn).elim⟩
  · obtain rfl := (List.cons.inj h1).1
    have hlen : len ≤ zs.length := by rw [h4]; split <;> omega
    have hx : ∀ n ∈ zs.take len, 0 ≤ n ∧ n ≤ 255 := fun n hn => by
      have := h6 n (List.mem_of_mem_take hn)
      simpa [Lit.wf, IntKind.min, IntKind.max, IntKind.signed, IntKind.bits] using this
    refine ⟨zs.take len, ?_, hx⟩
    have hf : fitsB (.slice (some a) len cap) = true := Nat.ble_eq_true_of_le h2
    by_cases h0 : len = 0
    · subst h0; exact ⟨hf, .inl ⟨by simp [byts], some a, cap, rfl, fun h => by cases h⟩⟩
    · obtain ⟨b, off, rfl, hc⟩ := ints_at h5 (by omega)
      have hl : (byts (zs.take len)).length = len := by simp [byts, List.length_take]; omega
      refine ⟨hf, .inr ⟨b, off, cap, by rw [hl], by omega, by omega, fun i hi => ?_⟩⟩
      rw [hl] at hi
      rw [hc i (by omega)]
      have : i < (zs.take len).length := by simp [List.length_take]; omega
      rw [byts_get _ i this]
      simp [List.getD, hi]
/-- A slice of bytes. -/
theorem read_bytes {t e : TypeId} {W : World} {b0 : Nat} {v : Value} {d : DataW H} {p : List MemPlace} (ht : P.underlying t = some (.slice e)) (he : P.underlying e = some (.int .u8)) (hc : P.cellsOf e = 1)
    (hv : Value.okWide P W .any b0 t v) (h : DataW.Trod enc P W 0 (fun _ => true) true t v d p) : ∃ l : List Int, Arr W v (byts l) ∧ ∀ n ∈ l, 0 ≤ n ∧ n ≤ 255 := by
  obtain ⟨a, l, c, rfl⟩ := okWide_slice ht hv
  obtain ⟨fuel, hf⟩ := h
  exact byts_of_trod ht he hc (by simpa [Value.cells] using hf)
end Go.Pw
