/- Soundness of the computed verification condition: text appended to a slice of bytes, text as a slice of bytes. -/
import Derived.Test.YtglnjkkaojhgnaaDoorSnd9
import Derived.Lib.AppendStr
import Derived.Laws.IdiomStrings
import Derived.Lib.ConvBytes
set_option linter.unusedSimpArgs false
set_option linter.unusedVariables false
namespace Go.Vg
open Go Go.RowKit
section
variable {C : Cfg} {w0 : World} {own0 : List Nat}
theorem strCells_u8s (s : ByteArray) : Lib.strCells s = u8s s.data.toList := by simp [Lib.strCells, u8s]
theorem run_append_bareS {P : Program} {t u e ty : TypeId} {i : TypeInfo} (a : Option Addr) {s : ByteArray} {v : Value} {w w' : World} (hm : 0 < s.size) (hu : P.underlying t = some (.slice e)) (hu2 : P.underlying u = some .string) (hi : P.info? e = some i)
    (hb : s.size * i.bytes ≤ 140737488355328) (h : (Builtin.append_ #[t, u] ty #[.slice none 0 0, .string s]).run P w = .ok v w') : (Builtin.append_ #[t, u] ty #[.slice a 0 0, .string s]).run P w = .ok v w' := by
  have hn : ¬ s.size = 0 := by omega
  have hf : ∀ (s : Option Addr) (w : World), (Builtin.firstCells i.size 0 (.slice s 0 0)).run P w = .ok #[] w := fun s w => by
    cases s <;> simp [Builtin.firstCells, loadCells, loadCellsFrom]
  have hcap : ¬ (281474976710656 < Builtin.nextslicecap s.size 0 * i.bytes) := by rw [nextslicecap_zero (by omega)]; omega
  rw [← h]
  simp [Builtin.append_, run_underlying hu, run_underlying hu2, sizeOf, typeInfo, hi, Builtin.lenOf, hn, hcap, Sem.run_bind, hf]
theorem run_append_zeroS {P : Program} {t u e : TypeId} {i : TypeInfo} (hu : P.underlying t = some (.slice e)) (hu2 : P.underlying u = some .string) (hi : P.info? e = some i) {a : Option Addr} {n c : Nat} (h : n ≤ c) (ty : TypeId) (w : World) {s : ByteArray} (hs : s.size = 0) :
    (Builtin.append_ #[t, u] ty #[.slice a n c, .string s]).run P w = .ok (.slice a n c) w := by
  have hf : (Builtin.firstCells i.size s.size (.string s)).run P w = .ok #[] w := by
    rw [Lib.run_firstCells_string]
    have : Lib.strCells s = [] := List.eq_nil_of_length_eq_zero (by rw [Lib.strCells_length]; exact hs)
    rw [this]
  rw [hs] at hf
  cases a <;> simp [Builtin.append_, run_underlying hu, run_underlying hu2, sizeOf, typeInfo, hi, Builtin.lenOf, h, hs, hf, storeCells]
theorem appendS_sound {o : Oper} {t u : TypeId} {so xo : Operand} (ho : o.op = .call { callee := .builtin .append, args := #[so, xo], argTypes := #[t, u] }) {st : St} {a : Act} {w : World} (ha : EnvOk C.nt st.env st.own a)
    (hw : StW C w0 own0 st.own st.H w) {f : SV → List Bx → Heap → Prop} {K : Act → World → Prop} {Q : Exit → Act → World → Prop} (hK : Cont C w0 own0 st o a w f K) {e : TypeId} {sa : Option Addr} {n c : Nat} {s : ByteArray}
    (hs : st.get so = some (.v (.slice sa n c))) (hx : st.get xo = some (.v (.string s))) (hu : C.P.underlying t = some (.slice e)) (hu2 : C.P.underlying u = some .string)
    (h : appendSV C e st f sa n c s) : o.wp C.P a w K Q := by
  have hturn : turns C o = true := by simp [turns, ho]
  have run : ∀ {v : Value} {w' : World}, (Builtin.append_ #[t, u] o.type #[.slice sa n c, .string s]).run C.P w = .ok v w' → (execOp a.eval o).run C.P w = .ok (.value v) w' := fun {v w'} h => by
    simp [execOp, ho, resolve, invoke, builtin, (get_sound ha hs).1, (get_sound ha hx).1, SV.val, h]
  have hmx : maxLen = 9223372036854775807 := rfl
  unfold appendSV at h
  split at h
  · rename_i hzz'
    cases hi : C.P.info? e with
    | none => rw [hi] at hzz'; cases hzz'
    | some i =>
      rw [hi] at hzz'
      have hzz : i.zero = some (.int .u8 0) := hzz'
      split at h
      · rename_i hc
        have hsz : i.size = 1 := by rw [← hc.1]; simp [Program.cellsOf, hi]
        have hby : i.bytes = 1 := by rw [← hc.2]; simp [Program.bytesOf, hi]
        obtain ⟨xs, hrow, hbytes, h⟩ := h
        by_cases hm : s.size = 0
        · have hr := run_append_zeroS (a := sa) hu hu2 hi hrow.2.1 o.type w hm
          have hc0 : u8s s.data.toList = [] := by rw [← strCells_u8s]; exact List.eq_nil_of_length_eq_zero (by rw [Lib.strCells_length]; exact hm)
          have h' := h sa c st.H ⟨fun x k hx _ => hx, fun x k hx hn => by (rw [hx] at hn; cases hn), fun hc _ _ => .inr ⟨rfl, hc⟩, fun _ => ⟨rfl, rfl⟩⟩ (by rw [hc0, hm]; simpa using hrow)
          rw [hm] at h'
          exact wp_value (run hr) (hK _ _ _ _ h' trivial (OwnExt.refl _) hw (fun ht => by rw [hturn] at ht; cases ht))
        · have hsl := Lib.strCells_length s
          rcases hrow.old with ⟨rfl, rfl, hro⟩ | ⟨hc0, hro⟩
          · obtain ⟨v', w', hr, h2, h3, _⟩ := Lib.run_append_own_string (P := C.P) w C.base t u o.type e i hu hu2 hi hzz hsz hby (.slice none 0 0) 0 xs (hro.owns hw.sees) s (by omega) hbytes hw.base_le
            have h4 : v'.ownBlock = some w.heap.size := by
              have := run_append_nil_string (P := C.P) w t u o.type e i (.int .u8 0) hu hu2 hi hzz s (by omega) (by omega) (by rw [hby]; omega)
              rw [hr] at this
              injection this with e1 _
              rw [e1]; rfl
            obtain ⟨a', c', H', rfl, hg, hrow', hw'⟩ := append_step hw hro (fun _ => rfl) h2 h3 (.inr h4) (fun h => by omega)
            rw [strCells_u8s] at hrow'
            have hr' := run_append_bareS sa (by omega) hu hu2 hi (by rw [hby]; omega) hr
            exact wp_value (run hr') (hK _ _ _ _ (h a' c' H' ⟨fun x k hx _ => hg.keep x k hx (.inl rfl), hg.fresh, fun hc g he => .inl ((hg.place hc g he).resolve_right fun h => h.2 rfl), fun h => by omega⟩ hrow') trivial (OwnExt.refl _) hw' (fun ht => by rw [hturn] at ht; cases ht))
          · obtain ⟨v', w', hr, h2, h3, _⟩ := Lib.run_append_own_string (P := C.P) w C.base t u o.type e i hu hu2 hi hzz hsz hby (.slice sa n c) n xs (hro.owns hw.sees) s (by omega) hbytes hw.base_le
            have hxl := hro.1
            rw [Nat.mul_one] at hxl
            have h45 : (v'.ownBlock = (Value.slice sa n c).ownBlock ∨ v'.ownBlock = some w.heap.size) ∧ (n + s.size ≤ c → v' = .slice sa (n + s.size) c) := by
              obtain ⟨_, hnc, hcm, hf4⟩ := hro
              rcases hf4 with ⟨_, _, h0⟩ | ⟨g, k, rfl, hb, hH, hty, hksz, hfree, hcl⟩
              · exact absurd h0 hc0
              · obtain ⟨cur, fr, hcu, hcsz, hfr, hcell⟩ := hw.sees g _ hH
                obtain rfl := hfr hfree
                rw [hty] at hcu
                by_cases hroom : n + s.size ≤ c
                · have := Lib.run_append_room_string (P := C.P) w t u o.type e i hu hu2 hi hsz g n c cur hcu s hroom (by omega)
                  rw [hr] at this
                  injection this with e1 _
                  rw [e1]
                  exact ⟨.inl rfl, fun _ => rfl⟩
                · have := Lib.run_append_grow_string (P := C.P) w t u o.type e i (.int .u8 0) hu hu2 hi hzz ⟨g, 0, none⟩ n c xs (by rw [hsz]; omega) (fun j v hj => by
                    rw [addr_add, Nat.zero_add]
                    refine hw.sees.cell ?_
                    unfold Heap.cell; rw [hH]; exact hcl j v hj) s (by omega) (by omega) (by rw [hby]; exact growslice_fits (by omega) (by omega))
                  rw [hr] at this
                  injection this with e1 _
                  rw [e1]
                  exact ⟨.inr rfl, fun h => absurd h hroom⟩
            obtain ⟨a', c', H', rfl, hg, hrow', hw'⟩ := append_step hw hro (fun h => absurd h hc0) h2 h3 h45.1 h45.2
            rw [strCells_u8s] at hrow'
            exact wp_value (run hr) (hK _ _ _ _ (h a' c' H' hg hrow') trivial (OwnExt.refl _) hw' (fun ht => by rw [hturn] at ht; cases ht))
      · exact h.elim
  · exact h.elim
theorem cellsAt_ofS {H : Heap} {b o : Nat} : ∀ (cs : List Value) (i : Nat), (∀ (j : Nat) v, cs[j]? = some v → H.cell b (o + (i + j)) = some v) → cellsAt H b o i cs
  | [], _, _ => trivial
  | v :: r, i, h => ⟨by simpa using h 0 v rfl, cellsAt_ofS r (i + 1) fun j u hj => by
      have := h (j + 1) u (by simpa using hj)
      rw [show i + 1 + j = i + (j + 1) from by omega]; exact this⟩
theorem toBytes_sound {o : Oper} {src dst : TypeId} {xo : Operand} (ho : o.op = .convert src dst xo) {st : St} {a : Act} {w : World} (ha : EnvOk C.nt st.env st.own a)
    (hw : StW C w0 own0 st.own st.H w) {f : SV → List Bx → Heap → Prop} {K : Act → World → Prop} {Q : Exit → Act → World → Prop} (hK : Cont C w0 own0 st o a w f K) {s : ByteArray} (hx : st.get xo = some (.v (.string s)))
    (h : toBytesV C src dst st f s) : o.wp C.P a w K Q := by
  unfold toBytesV at h
  split at h
  · rename_i d e hu1 hu2
    split at h
    · rename_i hu3
      have hr : (execOp a.eval o).run C.P w = .ok (.value (.slice (some ⟨w.heap.size, 0, none⟩) s.size (grownCap w s.size 0 e))) (Lib.bytesWorld w e s) := by
        simp only [execOp, ho, (get_sound ha hx).1, SV.val, Sem.run_bind, Lib.run_convert_string_bytes w src dst e s hu1 hu2 hu3]
        rfl
      refine wp_value hr ?_
      have hB : Below w.heap.size w (Lib.bytesWorld w e s) := ⟨rfl, rfl, rfl, by rw [Lib.bytesWorld_size]; omega, fun k hk => Lib.bytesWorld_at_old w e s k hk⟩
      have hBX : BelowX [] w (Lib.bytesWorld w e s) := ⟨hB.os, hB.tape, hB.output, hB.size, fun k hk _ => hB.block k hk⟩
      have hnew := Lib.bytesWorld_at_new w e s
      have hn : st.H w.heap.size = none := by
        cases hk : st.H w.heap.size with
        | none => rfl
        | some k => exact absurd (hw.sees.lt hk) (by omega)
      let k : KB := ⟨e, (Lib.bytesCells w e s).size, false, fun j => (u8s s.data.toList)[j]?⟩
      have hlen : (u8s s.data.toList).length = s.size := by simp [u8s]
      have hN : Next w.heap.size st.H (fun b => if b = w.heap.size then some k else st.H b) := by
        refine ⟨fun b k' hb => ?_, fun b k' hb hnb => ?_⟩
        · by_cases e : b = w.heap.size
          · subst e; rw [hn] at hb; cases hb
          · simpa [e] using hb
        · by_cases e : b = w.heap.size
          · omega
          · simp [e, hnb] at hb
      have hsee : Sees (fun b => if b = w.heap.size then some k else st.H b) (Lib.bytesWorld w e s) := fun b k' hb => by
        by_cases e1 : b = w.heap.size
        · subst e1
          simp only [if_pos] at hb
          obtain rfl := Option.some.inj hb
          refine ⟨_, _, hnew, rfl, fun h => (by cases h), fun j v hj => ?_⟩
          have hj' : (u8s s.data.toList)[j]? = some v := hj
          have hjl : j < s.data.size := by
            have := (List.getElem?_eq_some_iff.1 hj').1
            rw [hlen] at this; exact this
          unfold Lib.bytesCells
          rw [Array.getElem?_append_left (by simpa using hjl)]
          rw [← hj', ← Array.getElem?_toList]
          simp [u8s]
        · simp only [if_neg e1] at hb
          rw [hB.block b (hw.sees.lt hb)]
          exact hw.sees b k' hb
      refine hK _ _ _ _ (h w.heap.size (grownCap w s.size 0 e) _ (grownCap_ge w s.size 0 e) (hN.mono hw.base_le) hn (cellsAt_ofS _ 0 fun j v hj => ?_)) trivial (OwnExt.refl _) (hw.calledPlain hBX hsee hN) (fun _ => hBX)
      unfold Heap.cell
      simpa [k] using hj
    · exact h.elim
  · exact h.elim
end
end Go.Vg
