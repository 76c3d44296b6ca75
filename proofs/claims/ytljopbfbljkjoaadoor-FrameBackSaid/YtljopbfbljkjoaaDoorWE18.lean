/- WE18: what an operation leaves of the memory. -/
import Derived.Test.YtljopbfbljkjoaaDoorWE17
namespace Go.WE
open Go

section
variable {cx : Cx} {h : H} {call : CallE} {r : OpR}

theorem mkR_h {v : V} (he : mkR h v = some r) : r.h = h := by cases he; rfl
theorem mkA_h {x : A} (he : mkA h x = some r) : r.h = h := by cases he; rfl
theorem mkAgg_h {t : T} (he : mkAgg h t = some r) : r.h = h := by
  unfold mkAgg at he; split at he
  · exact mkR_h he
  · cases he
theorem eqRes_h {op : BinOp} {z : A} (he : eqRes h op z = some r) : r.h = h := by
  unfold eqRes at he
  repeat' split at he
  all_goals first | exact mkA_h he | cases he

theorem bind_h {α : Type} {x : Option α} {f : α → Option OpR} (hf : ∀ a r, f a = some r → r.h = h) (he : x.bind f = some r) : r.h = h := by
  cases x with
  | none => cases he
  | some a => exact hf a r he

theorem ext_of_h {h' : H} (e : h' = h) : Ext h h' := by subst e; exact Ext.refl _

theorem R.one_ext {t : R} (ha : t.All (Ext h)) (he : t.one = some r) : Ext h r.h := by
  cases t with
  | leaf ok v h' => cases he; exact ha
  | _ => cases he

theorem readSl_ext {n : Nat} {x : A} {us : List T} {ok : A} {h1 : H} (he : readSl h n x = some (us, ok, h1)) : Ext h h1 := by
  unfold readSl at he
  repeat' split at he
  all_goals first | (cases he; exact see_ext h _) | (cases he; exact Ext.refl _) | cases he

theorem writeSl_ext {us : List T} {id : Nat} {p : List Step} {s : Nat} {st : Ix} {ok : A} {h1 : H} (he : writeSl h us id p s st = some (ok, h1)) : Ext h h1 := by
  unfold writeSl at he
  split at he
  · rename_i b hb
    split at he
    · rename_i hrw
      simp only [Bool.and_eq_true] at hrw
      split at he
      · split at he
        · cases he; exact (see_ext h _).trans (put_ext (by exact hb) hrw.1 rfl)
        · cases he
      · cases he
    · cases he
  · cases he

theorem evalBuiltin_ext {b : Builtin} {vs : List V} {ts : Array TypeId} (he : evalBuiltin cx.P h b vs ts = some r) : Ext h r.h := by
  unfold evalBuiltin evAppend evCopy at he
  repeat' split at he
  all_goals first
    | exact ext_of_h (bind_h (fun a r => mkA_h) he)
    | exact ext_of_h (mkA_h he)
    | (rename_i h1 _ _ h2; cases he; exact (readSl_ext h1).trans (writeSl_ext h2))
    | (rename_i h1 _ _ _ h2; cases he; exact (readSl_ext h1).trans (writeSl_ext h2))
    | (cases he; exact Ext.refl _)
    | cases he

theorem evalOp_ext (hC : CallOK cx.P call) (hlo : h.lo ≤ h.next) {G : Cond} {gt : Nat → Ent} {op : Op} (he : evalOp cx call G gt h op = some r) : Ext h r.h := by
  cases op <;> simp only [evalOp] at he
  case move x =>
    unfold evMove at he
    split at he
    · exact ext_of_h (mkR_h he)
    · cases he
  case assign x =>
    unfold evMove at he
    split at he
    · exact ext_of_h (mkR_h he)
    · cases he
  case pick c x y =>
    apply ext_of_h
    unfold evalPick at he
    repeat' split at he
    all_goals first | exact bind_h (fun a r => mkR_h) he | exact mkR_h he | cases he
  case alloc t =>
    unfold evAlloc at he
    split at he
    · cases he; exact new_ext hlo _
    · cases he
  case box t x =>
    unfold evBox at he
    repeat' split at he
    all_goals first | (cases he; exact new_ext hlo _) | cases he
  case build t parts =>
    apply ext_of_h
    unfold evBuild evBuild2 at he
    repeat' split at he
    all_goals first | exact bind_h (fun a r => mkAgg_h) he | cases he
  case buildSlice t len parts =>
    unfold evBuildSlice evBuildSlice2 at he
    repeat' split at he
    all_goals first | (cases he; exact new_ext hlo _) | cases he
  case load t x =>
    unfold evLoad evalLoad at he
    repeat' split at he
    all_goals first | (cases he; exact see_ext h _) | cases he
  case store t x y =>
    unfold evStore evalStore at he
    split at he
    · split at he
      · split at he
        · split at he
          · rename_i b v hb _
            split at he
            · rename_i hx
              simp only [Bool.and_eq_true] at hx
              split at he
              · cases he; exact (see_ext h _).trans (put_ext (by exact hb) hx.1 rfl)
              · cases he
            · cases he
          · cases he
        · cases he
      · cases he
    · cases he
  case nilCheck x =>
    apply ext_of_h
    unfold evNilCheck at he
    split at he
    · exact mkA_h he
    · cases he
  case binOp op t x y yt =>
    apply ext_of_h
    unfold evBin evalBin evalBinA evalBinG at he
    repeat' split at he
    all_goals first | exact eqRes_h he | (cases he; rfl) | cases he
  case unOp op t x =>
    apply ext_of_h
    unfold evUn at he
    split at he
    · exact bind_h (fun a r => mkA_h) he
    · cases he
  case convert src dst x =>
    apply ext_of_h
    unfold evConv at he
    repeat' split at he
    all_goals first | exact bind_h (fun a r => mkA_h) he | cases he
  case makeFunc fn first captured =>
    apply ext_of_h
    unfold evMakeFunc at he
    repeat' split at he
    all_goals first | exact mkA_h he | cases he
  case fieldAddr s x f =>
    apply ext_of_h
    unfold evFieldAddr at he
    repeat' split at he
    all_goals first | exact mkA_h he | cases he
  case field s x f =>
    apply ext_of_h
    unfold evField at he
    repeat' split at he
    all_goals first | (cases he; rfl) | cases he
  case indexAddr t x ix =>
    apply ext_of_h
    unfold evIndexAddr evIndexAddr2 at he
    repeat' split at he
    all_goals first | (cases he; rfl) | cases he
  case index t x ix =>
    apply ext_of_h
    unfold evIndex evIndex2 at he
    repeat' split at he
    all_goals first | (cases he; rfl) | cases he
  case extract x ix =>
    apply ext_of_h
    unfold evExtract at he
    repeat' split at he
    all_goals first | exact mkR_h he | cases he
  case makeInterface t x =>
    apply ext_of_h
    unfold evIface at he
    repeat' split at he
    all_goals first | exact mkA_h he | cases he
  case makeSlice t len cap =>
    unfold evMakeSlice at he
    repeat' split at he
    all_goals first | (cases he; exact new_ext hlo _) | cases he
  case slice t x lo hi mx =>
    apply ext_of_h
    unfold evSlice evSlice2 at he
    repeat' split at he
    all_goals first | (cases he; rfl) | cases he
  case makeMap t r => exact evMakeMap_ext hlo he
  case mapUpdate t x k y => exact evMapUpdate_ext he
  case insert t x k y => exact evMapUpdate_ext he
  case lookup t x k ok => exact evLookup_ext he
  case call c =>
    unfold evalCall at he
    repeat' split at he
    all_goals first | exact R.one_ext (hC.ext _ _ _ hlo) he | exact evalBuiltin_ext he | cases he
  all_goals cases he
end
end Go.WE
