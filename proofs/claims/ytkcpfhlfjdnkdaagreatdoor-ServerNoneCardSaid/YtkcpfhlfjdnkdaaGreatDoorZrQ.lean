import Derived.Test.YtkcpfhlfjdnkdaaGreatDoorZrP
import Derived.CallsIn
import Derived.RangeFuncIn
import Derived.RangeFuncRecord
namespace Go.Zr

section
variable {P : Program} {tb : Tb} {ρ : Env}

theorem run_loadBytes_ints : ∀ (ns : List Int) (a : Addr) (acc : ByteArray) (w : World), (∀ j x, ns[j]? = some x → w.cell? (a.add j) = some (.int .u8 x)) →
    (loadBytes a acc ns.length).run P w = .ok ⟨acc.data ++ (ns.map fun n => UInt8.ofNat n.toNat).toArray⟩ w
  | [], a, acc, w, _ => by simp [loadBytes]
  | x :: ns, a, acc, w, h => by
    have h0 := h 0 x rfl
    have e0 : a.add 0 = a := by unfold Addr.add; split <;> simp_all
    have ea : ∀ j, (a.add 1).add j = a.add (j + 1) := by
      intro j
      unfold Addr.add
      cases a.spot <;> by_cases hj : j = 0 <;> simp [hj, Nat.add_comm] <;> try omega
    rw [e0] at h0
    simp only [List.length_cons, loadBytes, Sem.run_bind, run_load, h0, Result.andThen_ok]
    rw [run_loadBytes_ints ns (a.add 1) _ w (fun j y hy => by rw [ea]; exact h (j + 1) y (by simpa using hy))]
    simp [ByteArray.push, Nat.toUInt8]

theorem liesAt_bytes_at (ok : TbOk P tb) {e : TypeId} (hc : P.cellsOf e = 1) (count off n : Nat) (hn : off + n ≤ count) : liesAt P P.depth e count off e n = true := by
  obtain ⟨d, hd⟩ : ∃ d, P.depth = d + 1 := ⟨P.depth - 1, by have := ok.depth; omega⟩
  have hs : sameLayout P P.depth e e = true := by rw [hd]; unfold sameLayout; simp
  have hrow : rowAt P (fun x => sameLayout P P.depth x e) P.depth e count off n = true := by
    rw [hd]; unfold rowAt; rw [hc]; simp only [Nat.div_one, Nat.mod_one]
    have hs' : sameLayout P (d + 1) e e = true := by rw [← hd]; exact hs
    simp [hn, hs']
  rw [hd]; unfold liesAt
  rw [hrow]; rfl

theorem unsafeString_sound (ok : TbOk P tb) {H : Hp} {n : Nat} {w : World} (hr : Rel ρ H.get w) {ts : Array TypeId} {o off kk : Nat} {im cs l : List AV} {t ty : TypeId} {q : IntKind} {k : Int} {s : List UInt8} {vp : Value} (hp : VRel ρ (.ptr (some o) im off) vp)
    (hg : H.get o = some (.row t cs kk)) (hbad : (Nat.beq kk 1 || !(uStrOk tb ts.toList t) || decide (k < 0) || !(Nat.ble k.toNat 1099511627776)) = false) (hk0 : k ≠ 0) (hl : sub cs off k.toNat = .ok l) (hs : bytesFrom l = some s) :
    EffV P ρ H.get n w (.str s) (H.set o (some (.row t cs 1))).get n (Builtin.unsafeString_ ts ty #[vp, .int q k]) := by
  simp only [Bool.or_eq_false_iff, Bool.not_eq_false', decide_eq_false_iff_not] at hbad
  obtain ⟨⟨⟨b0, b1⟩, b2⟩, b3⟩ := hbad
  have b3 := Nat.le_of_ble_eq_true b3
  have hkk : kk ≠ 1 := fun e => by rw [e] at b0; simp at b0
  -- the types
  unfold uStrOk at b1
  split at b1
  · rename_i pt _ t' hts
    have h0 := first_at hts
    split at b1
    · rename_i e hpt
      simp only [Bool.and_eq_true] at b1
      have he := Nat.eq_of_beq_eq_true b1.1; subst he
      have hsz : tb.size e = .ok 1 := by
        have := b1.2
        split at this
        · rename_i z hz; rw [hz, Nat.eq_of_beq_eq_true this]
        · cases this
      have hcell : P.cellsOf e = 1 := ok.cells hsz
      simp only [VRel] at hp
      obtain ⟨L, hL, rfl⟩ := hp
      obtain ⟨M, m1, c, fr, c1, c2, c3, c4, c5, c6⟩ := hr.obj o _ hg
      rw [hL] at m1; cases m1
      obtain ⟨rfl, hlen, hll⟩ := sub_ok hl
      obtain ⟨ns, hns, rfl⟩ := bytes_from hs ((c4.drop off).take k.toNat)
      have hnl : ns.length = k.toNat := by
        have := congrArg List.length hns
        simp only [List.length_map, List.length_take, List.length_drop] at this
        have h2 := hlen
        simp only [Array.length_toList] at this
        omega
      have hkn : k.toNat ≠ 0 := by omega
      have hfit : L.lo + off + k.toNat ≤ c.size := by omega
      have hsh := shape_of c1
      have hlies := liesAt_bytes_at ok hcell c.size (L.lo + off) k.toNat hfit
      have hload := run_loadBytes_ints (P := P) ns ⟨L.blk, L.lo + off, none⟩ .empty w (fun j x hx => by
        rw [addr_add]
        have hj : j < k.toNat := by
          rcases Nat.lt_or_ge j k.toNat with h | h
          · exact h
          · rw [List.getElem?_eq_none (by omega)] at hx; cases hx
        have hx' : (ns.map (Value.int .u8))[j]? = some (.int .u8 x) := by simp [hx]
        rw [← hns, List.getElem?_take, if_pos hj, List.getElem?_drop, List.getElem?_take, if_pos (by omega), List.getElem?_drop] at hx'
        simp only [World.cell?, c1]
        rw [← Nat.add_assoc] at hx'
        simpa using hx')
      rw [hnl] at hload
      have h63 : ¬ (9223372036854775807 < k) := by omega
      have hmax : IntKind.i64.max = 9223372036854775807 := rfl
      refine ⟨_, w.freeze ⟨L.blk, L.lo + off, none⟩ k.toNat, ρ, ?_, ?_, VRel.str⟩
      · change Sem.run P (Bind.bind (Go.asInt (.int q k)) _) w = _
        simp [Go.asInt, asIntOf, h0, hmax, h63, b2, hk0, variablesAt, hsh, elemOf, ok.run_und hpt, hlies, hload, hcell]
      · rw [upd_set]
        have hsz' : (w.freeze ⟨L.blk, L.lo + off, none⟩ k.toNat).heap.size = w.heap.size := by unfold World.freeze; rw [if_neg hkn]; simp
        have hoth : ∀ b, b ≠ L.blk → (w.freeze ⟨L.blk, L.lo + off, none⟩ k.toNat).heap[b]? = w.heap[b]? := fun b hb => by
          unfold World.freeze; rw [if_neg hkn]; simp [Array.getElem?_modify, Ne.symm hb]
        have hthe : ∃ fr', (w.freeze ⟨L.blk, L.lo + off, none⟩ k.toNat).heap[L.blk]? = some (.cells c e fr') := by
          unfold World.freeze; rw [if_neg hkn]
          obtain ⟨lo, hi⟩ := fr
          exact ⟨(if (lo == hi) = true then (L.lo + off, L.lo + off + k.toNat) else (min lo (L.lo + off), max hi (L.lo + off + k.toNat))), by simp only [Array.getElem?_modify, if_true, c1, Option.map_some]⟩
        obtain ⟨fr', hthe⟩ := hthe
        exact Ext.turn hr hg (by simp [AObj.own, nbeq_ne hkk]) hL hsz' hoth ⟨c, fr', hthe, c2, c3, c4, by simp, by simp⟩ (by unfold World.freeze; rw [if_neg hkn]) (by unfold World.freeze; rw [if_neg hkn]) (by unfold World.freeze; rw [if_neg hkn])
    · cases b1
  · cases b1

end
end Go.Zr
