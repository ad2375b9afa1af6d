/- slices.Sorted over maps.Keys, texts for keys: by the shelf's contracts. No program in sight. -/
import Derived.Test.YtcpmgjnlnaigbaaGreatDoorEvZ
import Derived.Shelf.SlIter.Nil
import Derived.Shelf.SlIter.Sorted
import Derived.Shelf.SlIter.Collect
set_option linter.unusedVariables false
set_option linter.unusedSimpArgs false
noncomputable section
namespace Go.Ev
open Go Go.RowKit Go.Maps Go.Sort Go.Shelf Go.Proofs Go.WideElems

/-- an element reads as itself -/
def asIs (v : Value) : Option (DataW Value × List MemPlace) := some (.held v, [])

theorem insert_perm {H : Type} (x : Lit × DataW H) : ∀ l : List (Lit × DataW H), (DataW.insert x l).Perm (x :: l)
  | [] => .refl _
  | y :: r => by
    unfold DataW.insert
    split
    · exact .refl _
    · exact ((insert_perm x r).cons y).trans (.swap x y r)
theorem sorted_perm {H : Type} : ∀ l : List (Lit × DataW H), (l.foldr DataW.insert []).Perm l
  | [] => .refl _
  | x :: r => (insert_perm x _).trans ((sorted_perm r).cons x)

theorem keyStr_of {P : Program} {k : TypeId} (hk : P.underlying k = some .string) {s : List UInt8} (hs : s.length ≤ maxLen) : keyOf P k (encStr s) = some (.string s) := by
  simp [keyOf, hk, mapKey, encStr, ByteArray.size, hs]

theorem own_asIs {P : Program} {k : TypeId} {w : World} {b clk : Nat} {arr : Array MapEntry} (hb : w.heap[b]? = some (.map arr clk)) (hborn : Born arr clk) (hkeys : (arr.toList.map (·.key)).Nodup) (hlen : arr.size ≤ maxLen)
    (hr : ∀ x ∈ arr.toList, ∃ l, keyOf P k x.key = some l) : w.ownsMap P k asIs b arr.size (.map ((arr.toList.map (rg P k asIs)).foldr DataW.insert [])) :=
  ⟨arr, clk, hb, ⟨hlen, ⟨hborn.1, hborn.2, hkeys⟩, fun x hx => by
    obtain ⟨l, hl⟩ := hr x hx
    exact ⟨(l, .held x.val), by simp [rd, hl, asIs]⟩⟩, Nat.le_refl _, rfl⟩

theorem keys_nodup {K : Type} {f : K → Value} (hf : ∀ a b, f a = f b → a = b) {arr : Array MapEntry} {ks : List K} (hk : arr.toList.map (·.key) = ks.map f) (hn : ks.Nodup) : (arr.toList.map (·.key)).Nodup := by
  rw [hk, List.nodup_iff_pairwise_ne, List.pairwise_map]
  rw [List.nodup_iff_pairwise_ne] at hn
  exact hn.imp fun h e => h (hf _ _ e)

theorem key_mem {K : Type} {f : K → Value} {arr : Array MapEntry} {ks : List K} (hk : arr.toList.map (·.key) = ks.map f) {x : MapEntry} (hx : x ∈ arr.toList) : ∃ k ∈ ks, x.key = f k := by
  have : x.key ∈ ks.map f := by rw [← hk]; exact List.mem_map.2 ⟨x, hx, rfl⟩
  obtain ⟨k, hk, e⟩ := List.mem_map.1 this
  exact ⟨k, hk, e.symm⟩

theorem strKeys_ks {P : Program} {k : TypeId} (hk : P.underlying k = some .string) {arr : Array MapEntry} {ks : List (List UInt8)} (hks : arr.toList.map (·.key) = ks.map encStr) (hok : ∀ s ∈ ks, s.length ≤ maxLen) :
    (strKeys (.map ((arr.toList.map (rg P k asIs)).foldr DataW.insert []))).Perm ks := by
  show (((arr.toList.map (rg P k asIs)).foldr DataW.insert []).map fun p => Go.strOf p.1).Perm ks
  refine ((sorted_perm _).map _).trans ?_
  rw [List.map_map]
  have : ∀ (l : List MapEntry) (ks : List (List UInt8)), l.map (·.key) = ks.map encStr → (∀ s ∈ ks, s.length ≤ maxLen) → l.map ((fun p => Go.strOf p.1) ∘ rg P k asIs) = ks := by
    intro l
    induction l with
    | nil => intro ks h _; cases ks; rfl; cases h
    | cons x r ih =>
      intro ks h ho
      cases ks with
      | nil => cases h
      | cons s ks =>
        simp only [List.map_cons, List.cons.injEq] at h
        rw [List.map_cons, ih ks h.2 (fun q hq => ho q (List.mem_cons_of_mem _ hq))]
        congr 1
        have := keyStr_of hk (ho s (by simp))
        simp [rg, rd, h.1, this, asIs, Go.strOf]
  rw [this _ _ hks hok]

theorem sortedOk_str {P : Program} {ρS ρK : Go.Shelf.Ren} (LS : SlLaysZ.n6 P ρS) (LK : SlLaysZ.n10 P ρK) (hsort : AnyZ.SortsIn P ρS Fence.wide 4) (e9 : ∀ args w, (callFunc (ρS.f 9) args).run P w = .ok (.enter (ρS.f 9) args) w)
    (eS : Enters P (ρS.f 6)) (eK : ∀ args w, (callFunc (ρK.f 10) args).run P w = .ok (.enter (ρK.f 10) args) w) (hk : P.underlying (ρK.t 26) = some .string) : SortedOk P keyStr (ρS.f 6) (ρK.f 10) := by
  refine ⟨eS, fun w Bm hBm => ⟨fun hc => ?_, fun b arr clk ks hc hb hborn hks hnd hok hlen => ?_⟩⟩
  · have hseq : SeqGives Fence.wide 2 P (ρK.f 10) #[.pointer (some ⟨Bm, 0, none⟩)] encStr (fun ss : List (List UInt8) => ss = []) 0 w := AnyZ.keys_gives_nil LK Fence.wide _ trivial rfl Bm w hBm hc
    refine (callsIn_wide.1 (AnyZ.sorted_in LS Fence.wide 5 trivial trivial trivial trivial rfl (by omega) hsort e9 (ρK.f 10) #[.pointer (some ⟨Bm, 0, none⟩)] trivial eK _ 0 (Nat.zero_le _) (by omega) w hseq)).mono ?_
    rintro e w' ⟨v, ss, rfl, rfl, _, hnil, hbel⟩
    exact ⟨by rw [hnil.2 rfl], hbel⟩
  · have hks' : arr.toList.map (·.key) = ks.map encStr := hks
    have hok' : ∀ s ∈ ks, s.length ≤ maxLen := fun s hs => by
      have : s.length ≤ 140737488351232 := hok s hs
      unfold maxLen; omega
    have hal : arr.size = ks.length := by have := congrArg List.length hks'; simpa using this
    have hown : w.ownsMap P (ρK.t 26) asIs b arr.size (.map ((arr.toList.map (rg P (ρK.t 26) asIs)).foldr DataW.insert [])) := own_asIs hb hborn (keys_nodup (f := encStr) (fun a b => encStr_inj) hks' hnd) (by rw [hal]; unfold maxLen; omega) fun x hx => by
      obtain ⟨s, hs, e⟩ := key_mem hks' hx
      exact ⟨_, by rw [e]; exact keyStr_of hk (hok' s hs)⟩
    have hsz : Maps.size (H := Value) (.map ((arr.toList.map (rg P (ρK.t 26) asIs)).foldr DataW.insert [])) = arr.size := by
      rw [Maps.size_eq, (sorted_perm _).length_eq]; simp
    have hseq := AnyZ.keys_gives LK Fence.wide 2 trivial rfl (by omega) Bm b arr.size _ w hBm hc hown
    rw [hsz] at hseq
    refine (callsIn_wide.1 (AnyZ.sorted_in LS Fence.wide 5 trivial trivial trivial trivial rfl (by omega) hsort e9 (ρK.f 10) #[.pointer (some ⟨Bm, 0, none⟩)] trivial eK _ arr.size (by rw [hal]; unfold maxLen; omega) (by omega) w hseq)).mono ?_
    rintro e w' ⟨v, ss, rfl, hss, hrow, hnil, hbel⟩
    exact ⟨v, ss, _, rfl, hss.trans (strKeys_ks hk hks' hok'), hrow, hnil, hbel⟩
end Go.Ev
