import Derived.Test.YtkcpfhlfjdnkdaaGreatDoorChecked
import Derived.KernelRfl
import Derived.Shelf.SlIterI.Nil
import Derived.Shelf.SortM.Plain
import Derived.Shelf.SortM.SortNone
import Derived.Ground.GgzProg
import Derived.Ground.SlgmProg
import Derived.Test.YtkcpfhlfjdnkdaaGreatDoorZuB
namespace Go.Proofs
open Go.RowKit Go.Maps Go.Sort Go.Shelf
shelf_lay_g SlLaysZI.n7 Ggz 7 at Tryz 25 as Tryz.keysP
shelf_lay_g SlLaysZI.n6 Ggz 6 at Tryz 24 as Tryz.sortedP
shelf_lay_g SlLaysM.n5 Slgm 5 at Tryz 43 as Tryz.sortP
namespace YtkcpfhlfjdnkdaaGreatDoor
open Go Go.Zr

theorem sorts (m : Nat) : AnyZI.SortsIn Tryz.prog Tryz.sortedP_ren Fence.wide m :=
  ⟨fun blk off cap ss W hH hblk hsz => callsIn_wide.2 (AnyM.slices_Sort_int Tryz.sortP blk off cap ss W hH hblk hsz),
   fun p cap W => callsIn_wide.2 (AnyM.slices_Sort_int_none Tryz.sortP p cap W)⟩

theorem insert_perm {H : Type} (x : Lit × DataW H) : ∀ l : List (Lit × DataW H), (DataW.insert x l).Perm (x :: l)
  | [] => .refl _
  | y :: r => by
    unfold DataW.insert
    split
    · exact .refl _
    · exact ((insert_perm x r).cons y).trans (.swap x y r)
theorem foldr_perm {H : Type} : ∀ l : List (Lit × DataW H), (l.foldr DataW.insert []).Perm l
  | [] => .refl _
  | x :: l => (insert_perm x _).trans ((foldr_perm l).cons x)

set_option maxRecDepth 100000 in
theorem sorted_keys : SortedKeys Tryz.prog 24 44 3 := by
  intro Bm b ces c ks W hm hb hsz hst hkeys hwf
  let R : Value → Option (DataW Unit × List MemPlace) := fun _ => some (.nil, [])
  have hrd : ∀ x ∈ ces.toList, ∃ k : Int, x.key = .int .i64 k ∧ k ∈ ks ∧ Go.WideElems.rd Tryz.prog 3 R x = some (.int .i64 k, .nil) := by
    intro x hx
    have h1 : x.key ∈ ks.map (Value.int .i64) := by rw [← hkeys]; exact List.mem_map_of_mem hx
    obtain ⟨k, hk, e⟩ := List.mem_map.1 h1
    refine ⟨k, e.symm, hk, ?_⟩
    have hw := hwf k hk
    unfold Go.WideElems.rd keyOf
    rw [Tryz.underlying3]
    simp [mapKey, Tryz.underlying3, ← e, hw, R]
  let l := ces.toList.map (Go.WideElems.rg Tryz.prog 3 R)
  have hl : l.map (fun p => Go.intOf p.1) = ks := by
    have h1 : ∀ x ∈ ces.toList, Value.int .i64 (Go.intOf (Go.WideElems.rg Tryz.prog 3 R x).1) = x.key := by
      intro x hx
      obtain ⟨k, e1, _, e2⟩ := hrd x hx
      unfold Go.WideElems.rg
      rw [e2, e1]; rfl
    have h2 : (l.map fun p => Go.intOf p.1).map (Value.int .i64) = ks.map (Value.int .i64) := by
      rw [← hkeys]
      simp only [l, List.map_map]
      exact List.map_congr_left fun x hx => h1 x hx
    exact (List.map_inj_right (f := Value.int .i64) (fun a b h => by simpa using h)).1 h2
  let D0 : DataW Unit := .map (l.foldr DataW.insert [])
  have hown : W.ownsMap Tryz.prog 3 R b 2 D0 := ⟨ces, c, hb, ⟨by simp only [maxLen]; omega, hst, fun x hx => by
    obtain ⟨k, _, _, e⟩ := hrd x hx; exact ⟨_, e⟩⟩, hsz, rfl⟩
  have hBm : Bm < W.heap.size := by
    unfold World.cell? at hm
    cases hq : W.heap[Bm]? with
    | none => simp [hq] at hm
    | some o => exact (Array.getElem?_eq_some_iff.1 hq).1
  have hlen : Maps.size D0 = ces.size := by
    show (l.foldr DataW.insert []).length = _
    rw [(foldr_perm l).length_eq]; simp [l]
  have hseq := AnyZI.keys_gives (ρ := Tryz.keysP_ren) { Tryz.keysP with } Fence.wide (5 - 1 - 1 - 1) trivial rfl (by omega) Bm b 2 D0 W hBm hm hown
  have cS := AnyZI.sorted_in Tryz.sortedP Fence.wide 5 trivial trivial trivial trivial rfl (by omega) (sorts _) (enters_of Tryz.func43 (by kernel_rfl) rfl) 44 #[.pointer (some ⟨Bm, 0, none⟩)] trivial (enters_of Tryz.func44 (by kernel_rfl) rfl) _ _
    (by rw [hlen]; simp only [maxLen]; omega) (by rw [hlen]; omega) W hseq
  change CallsIn _ _ Tryz.prog 24 _ _ _ at cS
  refine callsIn_wide.2 (callsIn_wide.1 (cS.mono ?_))
  rintro e w' ⟨v, ss, rfl, hS, hrow, _, hbl⟩
  have hp : ss.Perm ks := by
    refine hS.trans ?_
    show ((l.foldr DataW.insert []).map fun p => Go.intOf p.1).Perm ks
    rw [← hl]
    exact (foldr_perm l).map _
  exact ⟨v, ss, rfl, hp, hrow, hbl⟩
end YtkcpfhlfjdnkdaaGreatDoor
end Go.Proofs
